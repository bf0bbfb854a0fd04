/- packed -/
import Derived.Test.YtaimaokfbgmoiaaMq1
import Derived.Orders
import Derived.LoopN
import Derived.Scope
import Derived.Laws.Cover3
import Derived.Defers
import Derived.Recover
import Derived.Tactics
import Derived.Maps.RangeRun
set_option linter.unusedSectionVars false
set_option linter.unusedSimpArgs false
set_option linter.unusedVariables false
open Option.some renaming injEq→Xa,inj→XaQ
open Prod.mk renaming injEq→Xb
open List renaming getElem?_eq_some_iff→Xf,all_cons→Xi,getD_eq_getElem?_getD→Xn,all_nil→Xp,replicate→Xr,getElem?_set→Xv,map_cons→Xw,mem_of_getElem?→Xx,length_nil→Xy,getElem?_eq_getElem→Xz,getD_cons_zero→XA,getD_cons_succ→XD,contains_nil→XF,mem_append→XG,lookup_cons→XJ,getElem?_cons_zero→XN,mem_cons→XP,range'→XT,mem_map→XV,all_eq_true→XW,getElem?_eq_none→XX,getElem?_map→XY,cons_append→X1,append_nil→X2,nodup_cons→Wc,getElem?_append_left→Wf,getElem?_append_right→Wo,pairwise_cons→Ws,mem_flatMap→WB,mem_filter→WR,pairwise_append→WV,drop_eq_nil_of_le→WW,range→W1,getElem?_set_ne→W5,drop_eq_getElem_cons→W9,isEmpty_nil→Xab,set_comm→Xaq,mem_range→Xat,getElem_mem→Xaw,isEmpty_iff→XaL,contains_cons→XaN,range'_succ→XaX,mapM_cons→Xbp,map_take→Xbt
open Bool renaming and_eq_true→Xt,false_eq_true→Xu,not_true→WD,not_eq_true'→WH,or_eq_true→WQ,and_self→WX,false_and→W0,true_or→Xay,or_false→Xa3,or_true→Xba,or_eq_false_iff→Xbf
open Option renaming map_eq_some_iff→XB,map_some→X4,getD_some→Wr,map→Xah,getD_none→XaJ
open Or renaming inl→XH,inr→XO
open Nat renaming zero_add→XK,le_refl→X0,add_zero→Wm,add_assoc→W2,le_max_right→Xao,sub_self→Xas,le_max_left→Xav,lt_or_ge→Xa0
open Array renaming getElem?_eq_some_iff→XQ,length_toList→X7,getElem?_setIfInBounds_ne→Wv,getD_eq_getD_getElem?→WY,replicate→XaO,getD→XaS
namespace Go.Proofs.Ytaimaokfbgmoiaa
set_option maxHeartbeats 16000000
set_option maxRecDepth 10000
section
open Go.RowKit
section
variable {O:Z7} {bf:Nat->Bool} {tm tm':Tms} {σ σ' σ2:Za} {sq:Nat}
theorem Framed.one {f:Za->Option (AVal×Za×Cls)} {v:AVal} {c:Cls} {ns t:Nat} (hr:c.rd=[t]) (hn:∃ x,σ[t]?=some x/\x≠.free) (hf:∀ σ2:Za,σ2[t]?=σ[t]?->f σ2=some (v,σ2,c)):Framed f σ sq ns v σ c:=by
 obtain ⟨x,hx,hne⟩:=hn
 exact ⟨none,rfl,by simp,by simp,by rw [hr];exact ZsA hx hne,fun σ2 hA=>hf σ2 (hA t (by rw [hr];simp))⟩
theorem ZF0 {k:Nat} {x v:AVal} {lo hi mx:Option AVal} {c:Cls} {ns:Nat} (h:ZcD σ k x lo hi mx=some (v,σ',c)) (hw:c.wr=[]):Framed (fun σ=>ZcD σ k x lo hi mx) σ sq ns v σ' c:=by
 unfold ZcD at h
 split at h
 ·rename_i b xs
  split at h
  ·cases h
  rename_i m hm
  split at h
  ·cases h
  rename_i h' hh
  split at h
  ·cases h
  rename_i l hl
  split at h
  case isFalse=>cases h
  rename_i hk0
  split at h
  ·rename_i hmx
   simp only [Xa,Xb] at h
   obtain ⟨rfl,rfl,rfl⟩:=h
   exact Framed.pure rfl (fun σ2=>by simp only [ZcD,hm,hh,hl,hk0,if_true,hmx])
  ·rename_i hmx
   simp only [Xa,Xb] at h
   obtain ⟨rfl,rfl,rfl⟩:=h
   exact Framed.pure rfl (fun σ2=>by simp only [ZcD,hm,hh,hl,hk0,if_true,hmx,if_false,Xu])
 ·rename_i t g p n
  split at h
  ·cases h
  rename_i els hels
  have hnf:∃ x,σ[t]?=some x/\x≠.free:=by
   simp only [Zo] at hels
   split at hels
   ·rename_i hs;exact ⟨_,hs,by simp⟩
   ·rename_i hs;exact ⟨_,hs,by simp⟩
   ·cases hels
  have hel2:∀ σ2:Za,σ2[t]?=σ[t]?->Zo σ2 (.sl t g p n)=some els:=by
   intro σ2 h2
   rw [<-hels]
   simp only [Zo,h2]
  split at h
  ·rename_i m0
   split at h
   ·rename_i q1 hq1
    split at h
    ·rename_i q2 hq2
     split at h
     ·rename_i q3 hq3
      simp only [Xa,Xb] at h
      obtain ⟨rfl,rfl,rfl⟩:=h
      exact Framed.one rfl hnf (fun σ2 h2=>by simp only [ZcD,hel2 σ2 h2,hq1,hq2,hq3])
     ·cases h
    ·cases h
   ·rename_i hq0
    split at h
    ·rename_i q1 hq1
     split at h
     ·rename_i q2 hq2
      split at h
      ·rename_i q3 hq3
       simp only [Xa,Xb] at h
       obtain ⟨rfl,rfl,rfl⟩:=h
       exact Framed.one rfl hnf (fun σ2 h2=>by simp only [ZcD,hel2 σ2 h2,hq0,hq1,hq2,hq3])
      ·cases h
     ·cases h
    ·cases h
  ·split at h
   ·rename_i g' k' xs hs
    split at h
    case isFalse=>cases h
    rename_i hkk
    split at h
    ·cases h
    rename_i h' hh
    split at h
    ·cases h
    rename_i l hl
    simp only [Xa,Xb] at h
    obtain ⟨rfl,rfl,rfl⟩:=h
    exact Framed.one rfl hnf (fun σ2 h2=>by simp only [ZcD,hel2 σ2 h2,h2,hs,hkk,if_true,hh,hl])
   ·rename_i g' k' xs hs
    split at h
    case isFalse=>cases h
    rename_i hkk
    split at h
    ·cases h
    rename_i h' hh
    split at h
    ·cases h
    rename_i l hl
    simp only [Xa,Xb] at h
    obtain ⟨rfl,rfl,rfl⟩:=h
    exact Framed.one rfl hnf (fun σ2 h2=>by simp only [ZcD,hel2 σ2 h2,h2,hs,hkk,if_true,hh,hl])
   ·cases h
 ·cases h
theorem ZE3 {k bytes:Nat} {x y v:AVal} {c:Cls} (h:Zef σ sq k bytes x y=some (v,σ',c)):c.any=true:=by
 unfold Zef at h
 repeat' (split at h)
 all_goals first
  | (cases h;done)
  | (simp only [Xa,Xb] at h;rw [<-h.2.2])
theorem ZDY {k bytes:Nat} {x y v:AVal} {c:Cls} (h:Zaj σ sq k bytes x y=some (v,σ',c)) (hw:c.wr=[]) (ha:c.any=false):Framed (fun σ=>Zaj σ sq k bytes x y) σ sq 1 v σ' c:=by
 unfold Zaj at h
 split at h
 ·rw [ZE3 h] at ha;cases ha
 rename_i ys us he
 split at h
 case isFalse=>cases h
 rename_i hk
 have hnf:=(ZjE he).nonfree
 split at h
 ·split at h
  ·rename_i hb
   simp only [Xa,Xb] at h
   obtain ⟨rfl,rfl,rfl⟩:=h
   refine ⟨some (.row 0 k ys),rfl,by simp,by simp,hnf,fun σ2 hA=>?_⟩
   simp only [Zaj,Zgm he hA,hk,if_true,hb,Za3]
  ·cases h
 ·rename_i x0 xs0
  split at h
  ·rename_i hb
   split at h
   ·simp only [Xa,Xb] at h
    obtain ⟨rfl,rfl,rfl⟩:=h
    refine ⟨none,rfl,by simp,by simp,hnf,fun σ2 hA=>?_⟩
    simp only [Zaj,Zgm he hA,hk,if_true,Za3]
    rw [if_pos hb]
   ·rename_i y0 ys0
    simp only [Xa,Xb] at h
    obtain ⟨rfl,rfl,rfl⟩:=h
    refine ⟨some (.row 0 k ((x0::xs0)++(y0::ys0))),rfl,by simp,by simp,hnf,fun σ2 hA=>?_⟩
    simp only [Zaj,Zgm he hA,hk,if_true,Za3]
    rw [if_pos hb]
  ·cases h
 ·split at h
  ·split at h
   ·split at h
    ·simp only [Xa,Xb] at h
     rw [<-h.2.2] at hw;simp at hw
    ·split at h
     ·simp only [Xa,Xb] at h
      rw [<-h.2.2] at hw;simp at hw
     ·cases h
   ·cases h
  ·cases h
 ·cases h
theorem Zvr {σ:Za} {vs:List AVal} (h:Zf σ 1000 (ZZ vs) []=[]):ZZ vs=[]:=by
 cases e:ZZ vs with
 | nil=>rfl
 | cons t r =>
  rw [e] at h
  simp only [Zf,XF,Xu,if_false,List.nil_append] at h
  obtain ⟨_,r',hr⟩:=ZgG (σ:=σ) 999 (Zp (σ.getD t .free)++r) [t] (by simp)
  rw [hr] at h
  simp at h
theorem ZvL {f own:Nat} {view:Bool} {args:List AVal} {v:AVal} {c:Cls} {ns:Nat} (hns:own=1->ns≠0) (h:Z4 O bf σ sq f own view args=some (v,σ',c)) (hw:c.wr=[]) (ha:c.any=false):Framed (fun σ=>Z4 O bf σ sq f own view args) σ sq ns v σ' c:=by
 unfold Z4 at h
 split at h
 ·cases h
 rename_i xs ts hs
 have hnf:Zez σ ts:=by
  unfold ZcZ at hs
  split at hs
  ·simp only [Xa,Xb] at hs
   rw [<-hs.2];exact ZdM
  ·exact (Zjg hs).nonfree
 have hag:∀ σ2,Agree σ σ2 ts->ZcZ (bf f) σ2 args=some (xs,ts):=by
  intro σ2 hA
  unfold ZcZ at hs ⊢
  split at hs
  ·rename_i hb;rw [if_pos hb];exact hs
  ·rename_i hb;rw [if_neg hb];exact ZnK hs hA
 generalize hids:Zf (ZV σ ts) 1000 (ZZ xs) []=ids at h
 unfold Zck at h
 split at h
 case isFalse=>cases h
 generalize hq:ZaC view ids.length (O f (ZW (Zd (ZV σ ts) 0 ids) xs) (Ze (ZV σ ts) 0 ids (Zd (ZV σ ts) 0 ids) ids 0))=q at h
 cases q with
 | none=>simp only [ZaP] at h;cases h
 | some q =>
  obtain ⟨r,hp⟩:=q
  simp only [ZaP] at h
  split at h
  ·rename_i hc
   simp only [Xt,XaL] at hc
   obtain ⟨rfl,rfl⟩:=hc
   have hrl:=Zvr hids
   have hrho:∀ σ:Za,Zd σ 0 []=fun _ _=>none:=fun σ=>by funext t g;simp [Zd,Zk]
   have hall:∀ σ2,Agree σ σ2 ts->Z4 O bf σ2 sq f own view args=ZaP σ2 (ZV σ2 ts) [] ts sq own (some (r,[])):=by
    intro σ2 hA
    unfold Z4
    rw [hag σ2 hA]
    simp only
    rw [hrl]
    have h0:Zf (ZV σ2 ts) 1000 [] []=[]:=rfl
    rw [h0]
    unfold Zck
    simp only [Xp,if_true]
    rw [hrho]
    rw [hrho] at hq
    simp only [Ze] at hq ⊢
    rw [hq]
   split at h
   ·rename_i hf
    simp only [Xa,Xb] at h
    obtain ⟨rfl,rfl,rfl⟩:=h
    refine ⟨none,rfl,by simp,by simp,hnf,fun σ2 hA=>?_⟩
    simp only
    rw [hall σ2 hA]
    simp only [ZaP,Xab,WX,if_true,hf,Za3]
   split at h
   ·rename_i hf hap
    simp only [Xa,Xb] at h
    obtain ⟨rfl,rfl,rfl⟩:=h
    refine ⟨none,rfl,by simp,by simp,hnf,fun σ2 hA=>?_⟩
    have hap2:Zdi σ2 ts r=true:=by
     unfold Zdi at hap ⊢
     simp only [Xt] at hap ⊢
     refine ⟨hap.1,XW.2 fun t ht=>?_⟩
     have:=XW.1 hap.2 t ht
     unfold Zgv at this ⊢
     rw [hA t ht];exact this
    simp only
    rw [hall σ2 hA]
    simp only [ZaP,Xab,WX,if_true,hf,hap2,Za3,if_false,Xu]
   ·rename_i hf hap
    simp only [Xa,Xb] at h
    obtain ⟨rfl,rfl,rfl⟩:=h
    simp only at hw
    subst hw
    refine ⟨none,rfl,by simp,by simp,hnf,fun σ2 hA=>?_⟩
    simp only
    rw [hall σ2 hA]
    simp only [ZaP,Xab,WX,if_true,hf,Za3,ZV,if_false,Xu,Zdi,Xab,WD,W0]
  ·rename_i hne
   split at h
   ·rename_i lo n k xs' hcl
    have hcl0:=hcl
    split at hcl
    case isFalse=>cases hcl
    rename_i hid
    simp only [XaL] at hid
    subst hid
    unfold Ze5 at hcl
    split at hcl
    case h_2=>cases hcl
    split at hcl
    case isFalse=>cases hcl
    rename_i hcc
    simp only [Xt,decide_eq_true_eq] at hcc
    simp only [Xa,Xb] at hcl h
    obtain ⟨rfl,rfl,rfl,rfl⟩:=hcl
    obtain ⟨rfl,rfl,rfl⟩:=h
    have hrl:=Zvr hids
    have hrho:∀ σ:Za,Zd σ 0 []=fun _ _=>none:=fun σ=>by funext t g;simp [Zd,Zk]
    refine ⟨some (.row 0 _ _),rfl,fun _=>hns hcc.1,by simp,hnf,fun σ2 hA=>?_⟩
    simp only
    unfold Z4
    rw [hag σ2 hA]
    simp only
    rw [hrl]
    have h0:Zf (ZV σ2 ts) 1000 [] []=[]:=rfl
    rw [h0]
    unfold Zck
    simp only [Xp,if_true]
    rw [hrho]
    rw [hrho] at hq
    simp only [Ze] at hq ⊢
    rw [hq]
    simp only [ZaP]
    rw [if_neg hne,hcl0]
    rfl
   split at h
   ·simp only [Xa,Xb] at h
    rw [<-h.2.2] at ha;simp at ha
   ·cases h
theorem Zdw {x:Option AVal} {v:AVal} {c:Cls} (h:x.map (fun r=>(r,σ,({}:Cls)))=some (v,σ',c)):σ'=σ/\c={}/\x=some v:=by
 simp only [XB,Xb] at h
 obtain ⟨a,h1,rfl,rfl,rfl⟩:=h
 exact ⟨rfl,rfl,h1⟩
theorem ZzN {ins : Ins} {v : AVal} {c : Cls} (h : execI O bf tm σ sq ins = some (v, σ', c)) (hw : c.wr = []) (ha : c.any = false) : Framed (fun σ => execI O bf tm σ sq ins) σ sq (nsite ins) v σ' c := by
  cases ins with
  | alloc zs =>
    simp only [execI, Xa, Xb] at h
    obtain ⟨rfl, rfl, rfl⟩ := h
    exact ⟨some (.var zs), rfl, by simp [nsite], by simp, ZdM, fun σ2 _ => rfl⟩
  | box x =>
    simp only [execI] at h
    split at h
    . cases h
    . cases h
    . cases h
    . rename_i hne1 hne2 hne3
      simp only [Xa, Xb] at h
      obtain ⟨rfl, rfl, rfl⟩ := h
      refine ⟨some (.var (x.ev tm).cells), rfl, by simp [nsite], by simp, ZdM, fun σ2 _ => ?_⟩
      simp only [execI, Za3]
  | mkslice k b z x y =>
    simp only [execI] at h
    split at h
    . rename_i l c' e1 e2
      split at h
      . rename_i hc
        simp only [Xa, Xb] at h
        obtain ⟨rfl, rfl, rfl⟩ := h
        refine ⟨some (.row 0 k (Xr c'.toNat z)), rfl, by simp [nsite], by simp, ZdM, fun σ2 _ => ?_⟩
        simp only [execI, e1, e2, Za3]
        try rw [if_pos hc]
      . cases h
    . cases h
  | bslice own k n z ps =>
    simp only [execI] at h
    split at h
    . cases h
    rename_i ys ts hv
    split at h
    case isFalse => cases h
    rename_i hc
    split at h
    . rename_i ho
      simp only [Xa, Xb] at h
      obtain ⟨rfl, rfl, rfl⟩ := h
      simp only at hw
      subst hw
      refine ⟨some (.row 0 k (((ps.map (·.1)).zip ys).foldl (fun l p => l.set p.1 p.2) (Xr n z))), rfl, by simp [nsite, ho], by simp, ZdM, fun σ2 hA => ?_⟩
      simp only [execI, ZpR hv hA, Za3, ZV]
      rw [if_pos hc, if_pos ho]
    . rename_i ho
      simp only [Xa, Xb] at h
      obtain ⟨rfl, rfl, rfl⟩ := h
      simp only at hw
      subst hw
      refine ⟨none, rfl, by simp, by simp, ZdM, fun σ2 hA => ?_⟩
      simp only [execI, ZpR hv hA, Za3, ZV]
      rw [if_pos hc, if_neg ho]
  | rslice k n z ps =>
    simp only [execI] at h
    split at h
    case isFalse => cases h
    rename_i hc
    simp only [Xa, Xb] at h
    obtain ⟨rfl, rfl, rfl⟩ := h
    refine ⟨some (.rrow 0 k ((ps.map fun p => (p.1, p.2.ev tm)).foldl (fun l p => l.set p.1 p.2) (Xr n z))), rfl, by simp [nsite], by simp, ZdM, fun σ2 hA => ?_⟩
    simp only [execI, Za3]
    rw [if_pos hc]
  | rng x =>
    simp only [execI] at h
    split at h
    . rename_i l e
      simp only [Xa, Xb] at h
      obtain ⟨rfl, rfl, rfl⟩ := h
      exact ⟨some (.siter l 0), rfl, by simp [nsite], by simp, ZdM, fun σ2 _ => by simp only [execI, e, Za3]⟩
    . cases h
  | mkmap =>
    simp only [execI, Xa, Xb] at h
    obtain ⟨rfl, rfl, rfl⟩ := h
    exact ⟨some (.map []), rfl, by simp [nsite], by simp, ZdM, fun σ2 _ => rfl⟩
  | mkrow x =>
    simp only [execI] at h
    repeat' split at h
    all_goals first
      | (cases h; done)
      | (simp only [Xa, Xb] at h
         obtain ⟨_, _, rfl⟩ := h
         cases ha)
  | mkbook x =>
    simp only [execI] at h
    split at h
    . rename_i e
      simp only [Xa, Xb] at h
      obtain ⟨rfl, rfl, rfl⟩ := h
      exact ⟨some (.book 0 []), rfl, by simp [nsite], by simp, ZdM, fun σ2 _ => by simp only [execI, e, Za3]⟩
    . cases h
  | look kc z ok m k => simp only [execI] at h ⊢; exact ZGf h
  | mlen m => simp only [execI] at h ⊢; exact ZCE h
  | mkgmap k =>
    simp only [execI] at h
    split at h
    case isFalse => cases h
    rename_i hk
    simp only [Xa, Xb] at h
    obtain ⟨rfl, rfl, rfl⟩ := h
    exact ⟨some (.gmap k []), rfl, by simp [nsite], by simp, ZdM, fun σ2 _ => by simp only [execI]; rw [if_pos hk]; rfl⟩
  | glook kc z m k =>
    simp only [execI] at h
    unfold Zdd at h
    repeat' (split at h)
    all_goals first
      | (cases h; done)
      | (simp only [Xa, Xb] at h; rw [<- h.2.2] at hw; cases hw)
  | mset kc m k v =>
    simp only [execI] at h
    unfold ZdN at h
    repeat' (split at h)
    all_goals first
      | (cases h; done)
      | (simp only [Xa, Xb] at h; rw [<- h.2.2] at hw; cases hw)
  | mdel kc m k =>
    simp only [execI] at h ⊢
    unfold Zf6 at h
    split at h
    case isFalse => cases h
    rename_i hk
    split at h
    . rename_i e
      simp only [Xa, Xb] at h; obtain ⟨rfl, rfl, rfl⟩ := h
      refine Framed.pure rfl fun σ2 => ?_
      simp only [Zf6, e]
      rw [if_pos hk]
    . repeat' (split at h)
      all_goals first
        | (cases h; done)
        | (simp only [Xa, Xb] at h; rw [<- h.2.2] at hw; cases hw)
    . cases h
  | clr k z x =>
    simp only [execI] at h
    unfold ZI at h
    repeat' (split at h)
    all_goals first
      | (cases h; done)
      | (simp only [Xa, Xb] at h; rw [<- h.2.2] at hw; cases hw)
  | nxt x =>
    simp only [execI] at h
    repeat' (split at h)
    all_goals first
      | (cases h; done)
      | (simp only [Xa, Xb] at h; rw [<- h.2.2] at ha; cases ha)
  | ld k a => simp only [execI] at h ⊢; exact ZEQ h
  | st k a x =>
    simp only [execI] at h
    unfold stA at h
    split at h
    . split at h
      . split at h
        . split at h
          . simp only [Xa, Xb] at h; rw [<- h.2.2] at hw; simp at hw
          . cases h
        . cases h
      . split at h
        . split at h
          . split at h
            . split at h
              . split at h
                . cases h
                . split at h
                  . simp only [Xa, Xb] at h; rw [<- h.2.2] at hw; simp at hw
                  . cases h
              . cases h
            . cases h
          . cases h
        . split at h
          . split at h
            . split at h
              . simp only [Xa, Xb] at h; rw [<- h.2.2] at hw; simp at hw
              . cases h
            . cases h
          . cases h
        . cases h
      . cases h
    . cases h
  | slice k x lo hi mx => simp only [execI] at h ⊢; exact ZF0 h hw
  | iaddr k x i => simp only [execI] at h ⊢; exact ZCl h
  | app k b z x y => simp only [execI] at h ⊢; exact ZDY h hw ha
  | b2s x =>
    simp only [execI] at h
    split at h
    . rename_i xs ts he
      split at h
      . rename_i l hl
        simp only [Xa, Xb] at h
        obtain ⟨rfl, rfl, rfl⟩ := h
        refine ⟨none, rfl, by simp, by simp, (ZjE he).nonfree, fun σ2 hA => ?_⟩
        simp only [execI, Zgm he hA, hl, Za3]
      . cases h
    . cases h
  | s2s x =>
    simp only [execI] at h
    split at h
    . split at h
      . split at h
        . simp only [Xa, Xb] at h; rw [<- h.2.2] at hw; simp at hw
        . cases h
      . cases h
    . cases h
  | call f own vw xs => simp only [execI] at h ⊢; exact ZvL (fun ho => by simp [nsite, ho]) h hw ha
  | callv x xs =>
    simp only [execI] at h
    split at h
    . rename_i f caps e
      have := ZvL (ns := nsite (.callv x xs)) (fun ho => absurd ho (by decide)) h hw ha
      have he : (fun σ => execI O bf tm σ sq (.callv x xs)) = fun σ => Z4 O bf σ sq (if f < 1000000 then f else f - 1000000) 4 false (if f < 1000000 then xs.map (·.ev tm) ++ caps else caps ++ xs.map (·.ev tm)) := by funext σ; simp only [execI, e]
      rw [he]; exact this
    . cases h
  | mki t x =>
    simp only [execI] at h
    split at h
    . cases h
    . cases h
    . cases h
    . simp only [Xa, Xb] at h; obtain ⟨rfl, rfl, rfl⟩ := h; exact Framed.pure rfl (fun σ2 => by simp only [execI])
  | panic x =>
    simp only [execI] at h
    split at h
    . rename_i e; simp only [Xa, Xb] at h; obtain ⟨rfl, rfl, rfl⟩ := h; exact Framed.pure rfl (fun σ2 => by simp only [execI, e])
    . cases h
  | eqv neg ks x y =>
    simp only [execI] at h
    split at h
    . rename_i e1 e2
      split at h
      . rename_i e4
        split at h
        . rename_i e3; simp only [Xa, Xb] at h; obtain ⟨rfl, rfl, rfl⟩ := h; exact Framed.pure rfl (fun σ2 => by simp only [execI, e1, e2, e3, e4, if_true])
        . cases h
      . cases h
    . cases h
  | ieq neg x y =>
    simp only [execI] at h
    split at h
    . rename_i e1 e2; simp only [Xa, Xb] at h; obtain ⟨rfl, rfl, rfl⟩ := h; exact Framed.pure rfl (fun σ2 => by simp only [execI, e1, e2])
    . rename_i e1 e2; simp only [Xa, Xb] at h; obtain ⟨rfl, rfl, rfl⟩ := h; exact Framed.pure rfl (fun σ2 => by simp only [execI, e1, e2])
    . rename_i e1 e2; simp only [Xa, Xb] at h; obtain ⟨rfl, rfl, rfl⟩ := h; exact Framed.pure rfl (fun σ2 => by simp only [execI, e1, e2])
    . cases h
  | mov x => simp only [execI, Xa, Xb] at h; obtain ⟨rfl, rfl, rfl⟩ := h; exact Framed.pure rfl (fun σ2 => rfl)
  | mkfn f xs => simp only [execI, Xa, Xb] at h; obtain ⟨rfl, rfl, rfl⟩ := h; exact Framed.pure rfl (fun σ2 => rfl)
  | bin op x y =>
    simp only [execI] at h
    obtain ⟨rfl, rfl, hx⟩ := Zdw h
    exact Framed.pure rfl (fun σ2 => by simp only [execI, hx, X4])
  | un op x =>
    simp only [execI] at h
    obtain ⟨rfl, rfl, hx⟩ := Zdw h
    exact Framed.pure rfl (fun σ2 => by simp only [execI, hx, X4])
  | faddr off x =>
    simp only [execI] at h
    obtain ⟨rfl, rfl, hx⟩ := Zdw h
    exact Framed.pure rfl (fun σ2 => by simp only [execI, hx, X4])
  | pick a b d =>
    simp only [execI] at h
    unfold ZfI at h
    split at h
    . rename_i e; simp only [Xa, Xb] at h; obtain ⟨rfl, rfl, rfl⟩ := h; exact Framed.pure rfl (fun σ2 => by simp only [execI, ZfI, e])
    . rename_i e; simp only [Xa, Xb] at h; obtain ⟨rfl, rfl, rfl⟩ := h; exact Framed.pure rfl (fun σ2 => by simp only [execI, ZfI, e])
    . cases h
  | build zs ps =>
    simp only [execI] at h
    split at h
    . rename_i cs hf
      simp only [Xa, Xb] at h; obtain ⟨rfl, rfl, rfl⟩ := h
      exact Framed.pure rfl (fun σ2 => by simp only [execI, hf])
    . cases h
  | i2i k x =>
    simp only [execI] at h
    split at h
    . rename_i e; simp only [Xa, Xb] at h; obtain ⟨rfl, rfl, rfl⟩ := h; exact Framed.pure rfl (fun σ2 => by simp only [execI, e])
    . cases h
  | i2s x =>
    simp only [execI] at h
    split at h
    . rename_i e; simp only [Xa, Xb] at h; obtain ⟨rfl, rfl, rfl⟩ := h; exact Framed.pure rfl (fun σ2 => by simp only [execI, e])
    . cases h
  | same x =>
    simp only [execI] at h
    split at h
    . rename_i e; simp only [Xa, Xb] at h; obtain ⟨rfl, rfl, rfl⟩ := h; exact Framed.pure rfl (fun σ2 => by simp only [execI, e])
    . cases h
  | s2b x =>
    simp only [execI] at h
    split at h
    . rename_i e; simp only [Xa, Xb] at h; obtain ⟨rfl, rfl, rfl⟩ := h; exact Framed.pure rfl (fun σ2 => by simp only [execI, e])
    . cases h
  | sslice x lo hi =>
    simp only [execI] at h
    split at h
    . rename_i s e
      split at h
      . cases h
      rename_i h1 hh
      split at h
      . cases h
      rename_i l hl
      simp only [Xa, Xb] at h; obtain ⟨rfl, rfl, rfl⟩ := h
      exact Framed.pure rfl (fun σ2 => by simp only [execI, e, hh, hl])
    . cases h
  | field k off x =>
    simp only [execI] at h
    split at h
    . rename_i cs e
      obtain ⟨rfl, rfl, hx⟩ := Zdw h
      exact Framed.pure rfl (fun σ2 => by simp only [execI, e, hx, X4])
    . cases h
  | aaddr k n x i =>
    simp only [execI] at h
    split at h
    . rename_i e
      split at h
      . rename_i hc
        obtain ⟨rfl, rfl, hx⟩ := Zdw h
        exact Framed.pure rfl (fun σ2 => by simp only [execI, e]; rw [if_pos hc, hx]; rfl)
      . cases h
    . cases h
  | sindex x i =>
    simp only [execI] at h
    split at h
    . rename_i e1 e2
      split at h
      . rename_i hc
        simp only [XB, Xb] at h
        obtain ⟨b, hb, rfl, rfl, rfl⟩ := h
        exact Framed.pure rfl (fun σ2 => by simp only [execI, e1, e2]; rw [if_pos hc, hb]; rfl)
      . cases h
    . cases h
  | aindex s k n x i =>
    simp only [execI] at h
    split at h
    . rename_i e1 e2
      split at h
      . rename_i hc
        obtain ⟨rfl, rfl, hx⟩ := Zdw h
        exact Framed.pure rfl (fun σ2 => by simp only [execI, e1, e2]; rw [if_pos hc, hx]; rfl)
      . cases h
    . cases h
  | ext x i =>
    simp only [execI] at h
    split at h
    . rename_i e
      obtain ⟨rfl, rfl, hx⟩ := Zdw h
      exact Framed.pure rfl (fun σ2 => by simp only [execI, e, hx, X4])
    . cases h
  | len x =>
    simp only [execI] at h
    split at h
    . rename_i e; simp only [Xa, Xb] at h; obtain ⟨rfl, rfl, rfl⟩ := h; exact Framed.pure rfl (fun σ2 => by simp only [execI, e])
    . rename_i e; simp only [Xa, Xb] at h; obtain ⟨rfl, rfl, rfl⟩ := h; exact Framed.pure rfl (fun σ2 => by simp only [execI, e])
    . cases h
  | slen x =>
    simp only [execI] at h
    split at h
    . rename_i e; simp only [Xa, Xb] at h; obtain ⟨rfl, rfl, rfl⟩ := h; exact Framed.pure rfl (fun σ2 => by simp only [execI, e])
    . cases h
  | mm m xs =>
    simp only [execI] at h
    split at h
    . rename_i e; simp only [Xa, Xb] at h; obtain ⟨rfl, rfl, rfl⟩ := h; exact Framed.pure rfl (fun σ2 => by simp only [execI, e])
    . cases h
  | nilchk x =>
    simp only [execI] at h
    split at h
    . rename_i e; simp only [Xa, Xb] at h; obtain ⟨rfl, rfl, rfl⟩ := h; exact Framed.pure rfl (fun σ2 => by simp only [execI, e])
    . rename_i e; simp only [Xa, Xb] at h; obtain ⟨rfl, rfl, rfl⟩ := h; exact Framed.pure rfl (fun σ2 => by simp only [execI, e])
    . rename_i e; simp only [Xa, Xb] at h; obtain ⟨rfl, rfl, rfl⟩ := h; exact Framed.pure rfl (fun σ2 => by simp only [execI, e])
    . cases h
  | beq neg x y =>
    simp only [execI] at h
    split at h
    . rename_i e1 e2; simp only [Xa, Xb] at h; obtain ⟨rfl, rfl, rfl⟩ := h; exact Framed.pure rfl (fun σ2 => by simp only [execI, e1, e2])
    . cases h
  | peq neg x y =>
    simp only [execI] at h
    split at h
    . rename_i e1 e2; simp only [Xa, Xb] at h; obtain ⟨rfl, rfl, rfl⟩ := h; exact Framed.pure rfl (fun σ2 => by simp only [execI, e1, e2])
    . rename_i e1 e2; simp only [Xa, Xb] at h; obtain ⟨rfl, rfl, rfl⟩ := h; exact Framed.pure rfl (fun σ2 => by simp only [execI, e1, e2])
    . rename_i e1 e2; simp only [Xa, Xb] at h; obtain ⟨rfl, rfl, rfl⟩ := h; exact Framed.pure rfl (fun σ2 => by simp only [execI, e1, e2])
    . cases h
theorem ZDz {ins:Ins} {v:AVal} {c:Cls} (ht:ins.touches=false) (h:execI O bf tm σ sq ins=some (v,σ',c)):c={}/\nsite ins=0:=by
 cases ins <;> simp [Ins.touches] at ht <;> refine ⟨?_,rfl⟩ <;> simp only [execI] at h
 case mov x=>simp only [Xa,Xb] at h;exact h.2.2.symm
 case mkfn f xs=>simp only [Xa,Xb] at h;exact h.2.2.symm
 case bin op x y=>exact (Zdw h).2.1
 case un op x=>exact (Zdw h).2.1
 case faddr off x=>exact (Zdw h).2.1
 case pick c x y =>
  unfold ZfI at h
  split at h
  ·simp only [Xa,Xb] at h;exact h.2.2.symm
  ·simp only [Xa,Xb] at h;exact h.2.2.symm
  ·cases h
 all_goals
  repeat' (split at h)
  all_goals first
   | (cases h;done)
   | (simp only [Xa,Xb] at h;exact h.2.2.symm)
   | exact (Zdw h).2.1
   | (simp only [XB,Xb] at h;obtain ⟨_,_,_,_,h⟩:=h;exact h.symm)
theorem ZFx {ins:Ins} {v:AVal} {c:Cls} (ht:ins.touches=false) (h:execI O bf tm σ sq ins=some (v,σ',c)):σ'=σ:=by
 cases ins <;> simp [Ins.touches] at ht <;> simp only [execI] at h
 case mov x=>simp only [Xa,Xb] at h;exact h.2.1.symm
 case mkfn f xs=>simp only [Xa,Xb] at h;exact h.2.1.symm
 case bin op x y=>exact (Zdw h).1
 case un op x=>exact (Zdw h).1
 case faddr off x=>exact (Zdw h).1
 case pick c x y =>
  unfold ZfI at h
  split at h
  ·simp only [Xa,Xb] at h;exact h.2.1.symm
  ·simp only [Xa,Xb] at h;exact h.2.1.symm
  ·cases h
 all_goals
  repeat' (split at h)
  all_goals first
   | (cases h;done)
   | (simp only [Xa,Xb] at h;exact h.2.1.symm)
   | exact (Zdw h).1
   | (simp only [XB,Xb] at h;obtain ⟨_,_,_,h,_⟩:=h;exact h.symm)
end
end
section
open Go.RowKit
section
variable {O:Z7} {bf:Nat->Bool} {tm:Tms} {σ σ':Za} {sq s:Nat} {b:Zq}
theorem Zgz:∀ (ts:List Nat) (σ:Za),(ZV σ ts)[s]?=some .free↔σ[s]?=some .free
 | [],σ=>Iff.rfl
 | t::ts,σ=>by
  simp only [ZV]
  split
  ·rename_i g k xs hs
   rw [Zgz ts,Xv]
   split
   ·rename_i e;subst e
    split
    ·simp [hs]
    ·simp [hs]
   ·exact Iff.rfl
  ·exact Zgz ts σ
theorem Zrs {cs:List AVal} {t:Nat}:∀ (ts:List Nat) (σ:Za),σ[t]?=some (.var cs)->(ZV σ ts)[t]?=some (.var cs)
 | [],σ,h=>h
 | u::ts,σ,h=>by
  simp only [ZV]
  split
  ·rename_i g k xs hs
   refine Zrs ts _ ?_
   rw [Xv]
   split
   ·rename_i e;subst e;rw [hs] at h;cases h
   ·exact h
  ·exact Zrs ts σ h
theorem ZoB:∀ (ts:List Nat) (σ:Za),s ∉ ts->ZV (σ.set s b) ts=(ZV σ ts).set s b
 | [],σ,_=>rfl
 | t::ts,σ,h=>by
  simp only [XP,not_or] at h
  have e:(σ.set s b)[t]?=σ[t]?:=by rw [Xv,if_neg h.1]
  simp only [ZV,e]
  split
  ·rw [Xaq _ _ h.1,ZoB ts _ h.2]
  ·exact ZoB ts σ h.2
theorem Zg0 {t:Nat} (h:s≠t):(σ.set s b).getD t .free=σ.getD t .free:=by
 rw [Xn,Xn,Xv,if_neg h]
theorem ZtY:∀ (n:Nat) (todo acc:List Nat),∀ x ∈ acc,x ∈ Zf σ n todo acc
 | 0,_,acc,x,h=>h
 | n+1,[],acc,x,h=>h
 | n+1,t::todo,acc,x,h=>by
  simp only [Zf]
  split
  ·exact ZtY n todo acc x h
  ·exact ZtY n _ _ x (by simp [h])
theorem Zt5:∀ (n:Nat) (todo acc:List Nat),s ∉ Zf σ n todo acc->Zf (σ.set s b) n todo acc=Zf σ n todo acc
 | 0,_,acc,_=>rfl
 | n+1,[],acc,_=>rfl
 | n+1,t::todo,acc,h=>by
  simp only [Zf] at h ⊢
  split
  ·rename_i hc;rw [if_pos hc] at h;exact Zt5 n todo acc h
  ·rename_i hc
   rw [if_neg hc] at h
   have hne:s≠t:=by
    rintro rfl
    exact h (ZtY n _ _ s (by simp))
   rw [Zg0 hne]
   exact Zt5 n _ _ h
theorem ZD9 {m:Nat} {ids:List Nat} (h:s ∉ ids):Zd (σ.set s b) m ids=Zd σ m ids:=by
 funext t g
 unfold Zd
 split
 ·rename_i j hj
  obtain ⟨k,_,hk⟩:=ZuS hj
  have : s≠t:=by rintro rfl;exact h (Xx hk)
  rw [Xv,if_neg this]
 ·rfl
theorem Zv6 {m:Nat} {ids:List Nat} {ρ:Rho}:∀ (ts:List Nat) (j:Nat),s ∉ ts->Ze (σ.set s b) m ids ρ ts j=Ze σ m ids ρ ts j
 | [],_,_=>rfl
 | t::ts,j,h=>by
  simp only [XP,not_or] at h
  simp only [Ze,Zg0 h.1,Zv6 ts (j+1) h.2]
theorem Zx6 {ids:List Nat} (h:s ∉ ids):∀ (hp:Za) (j:Nat),ZbI (σ.set s b) ids hp j=ZbI σ ids hp j
 | [],_=>rfl
 | x::xs,j=>by
  simp only [ZbI,Zx6 h xs (j+1)]
  congr 2
  split
  ·rename_i t ht
   have : s≠t:=by rintro rfl;exact h (Xx ht)
   rw [Zg0 this]
  ·rfl
theorem Zwx:∀ (n sq:Nat),(∀ i,i < n->sq+i≠s)->ZcJ (σ.set s b) sq n=ZcJ σ sq n
 | 0,_,_=>rfl
 | n+1,sq,h=>by
  have h0:=h 0 (by omega)
  simp only [ZcJ,freeAt]
  rw [Xv,if_neg (by intro e;exact h0 (by simpa using e.symm)),Zwx n (sq+1) (fun i hi=>by have:=h (i+1) (by omega);rwa [show sq+1+i=sq+(i+1) by omega])]
theorem Zxh {ids:List Nat} (h:s ∉ ids):Za8 (σ.set s b) ids sq=Za8 σ ids sq:=by
 funext j g
 unfold Za8
 split
 ·rename_i t ht
  have : s≠t:=by rintro rfl;exact h (Xx ht)
  rw [Zg0 this]
 ·rfl
theorem ZvO {σ0:Za} {ids:List Nat} (h:s ∉ ids):∀ (hp:Za) (j:Nat) (σ:Za),(∀ i,i < hp.length->ZaY ids sq (j+i)≠s)->Za9 (σ0.set s b) ids sq hp j (σ.set s b)=(Za9 σ0 ids sq hp j σ).set s b
 | [],_,_,_=>rfl
 | x::xs,j,σ,hn=>by
  have h0:=hn 0 (by simp)
  simp only [Wm] at h0
  have eg:ZbB (σ0.set s b) ids j x=ZbB σ0 ids j x:=by
   unfold ZbB
   split
   ·rename_i t ht
    have : s≠t:=by rintro rfl;exact h (Xx ht)
    rw [Zg0 this]
   ·rfl
  simp only [Za9,Zxh h,eg]
  rw [Xaq _ _ (Ne.symm h0)]
  exact ZvO h xs (j+1) _ (fun i hi=>by have:=hn (i+1) (by simp;omega);rwa [show j+1+i=j+(i+1) by omega])
theorem ZyF:∀ (ids:List Nat),s ∉ ids->Zct (σ.set s b) ids=Zct σ ids
 | [],_=>rfl
 | t::ts,h=>by
  simp only [XP,not_or] at h
  simp only [Zct,Xv,if_neg h.1,ZyF ts h.2]
theorem ZFp {ρ:Rho} {g:Nat} {x:Zq} (h:okB x=true):Zg ρ g x≠.free:=by
 cases x <;> simp [okB] at h <;> simp [Zg]
theorem Zp8 {σ0:Za} {ids:List Nat}:∀ (hp:Za) (j:Nat) (σ:Za),ZbI σ0 ids hp j=true->(Za9 σ0 ids sq hp j σ)[s]?=some .free->σ[s]?=some .free
 | [],_,_,_,h=>h
 | x::xs,j,σ,hk,h=>by
  simp only [ZbI,Xt] at hk
  simp only [Za9] at h
  have:=Zp8 xs (j+1) _ hk.2 h
  rw [Xv] at this
  split at this
  ·split at this
   ·injection this with this;exact absurd this (ZFp hk.1.1)
   ·cases this
  ·exact this
theorem ZAE {ts:List Nat} (h:Zez σ ts) (hs:σ[s]?=some .free):s ∉ ts:=by
 intro hm
 obtain ⟨x,hx,hne⟩:=h s hm
 rw [hs] at hx;injection hx with hx;exact hne hx.symm
theorem Zyb {f own:Nat} {view:Bool} {args:List AVal} {v:AVal} {c:Cls} (h:Z4 O bf σ sq f own view args=some (v,σ',c)) (hs':σ'[s]?=some .free) (hne:∀ i,i < own->sq+i≠s) :
  σ[s]?=some .free/\Z4 O bf (σ.set s b) sq f own view args=some (v,σ'.set s b,c):=by
 unfold Z4 at h
 split at h
 ·cases h
 rename_i xs ts hsh
 have hnf:Zez σ ts:=by
  unfold ZcZ at hsh
  split at hsh
  ·simp only [Xa,Xb] at hsh
   rw [<-hsh.2];exact ZdM
  ·exact (Zjg hsh).nonfree
 have hag:∀ σ2,Agree σ σ2 ts->ZcZ (bf f) σ2 args=some (xs,ts):=by
  intro σ2 hA
  unfold ZcZ at hsh ⊢
  split at hsh
  ·rename_i hb;rw [if_pos hb];exact hsh
  ·rename_i hb;rw [if_neg hb];exact ZnK hsh hA
 generalize hids:Zf (ZV σ ts) 1000 (ZZ xs) []=ids at h
 unfold Zck at h
 split at h
 case isFalse=>cases h
 rename_i hall
 generalize hq:ZaC view ids.length (O f (ZW (Zd (ZV σ ts) 0 ids) xs) (Ze (ZV σ ts) 0 ids (Zd (ZV σ ts) 0 ids) ids 0))=q at h
 have key:σ[s]?=some .free->s ∉ ts/\s ∉ ids/\Z4 O bf (σ.set s b) sq f own view args=ZaP (σ.set s b) ((ZV σ ts).set s b) ids ts sq own q:=by
  intro hs
  have n1:=ZAE hnf hs
  have hsf:(ZV σ ts)[s]?=some .free:=(Zgz ts σ).2 hs
  have n2:s ∉ ids:=by
   intro hm
   have:=XW.1 hall s hm
   rw [Xn,hsf] at this
   simp [okB] at this
  refine ⟨n1,n2,?_⟩
  unfold Z4
  rw [hag _ (fun t ht=>by rw [Xv,if_neg (by rintro rfl;exact n1 ht)])]
  simp only
  rw [ZoB ts σ n1,Zt5 _ _ _ (by rw [hids];exact n2),hids]
  unfold Zck
  have hall2:(ids.all fun t=>okB (((ZV σ ts).set s b).getD t .free))=true:=by
   rw [XW] at hall ⊢
   intro t ht
   rw [Zg0 (by rintro rfl;exact n2 ht)]
   exact hall t ht
  rw [if_pos hall2,ZD9 n2,Zv6 ids 0 n2,hq]
 cases q with
 | none=>simp only [ZaP] at h;cases h
 | some q =>
  obtain ⟨r,hp⟩:=q
  simp only [ZaP] at h
  split at h
  ·rename_i hc
   split at h
   ·rename_i hf
    simp only [Xa,Xb] at h
    obtain ⟨rfl,rfl,rfl⟩:=h
    obtain ⟨n1,n2,k⟩:=key hs'
    refine ⟨hs',?_⟩
    rw [k]
    simp only [ZaP,hc,if_true,hf]
   split at h
   ·rename_i hf hap
    simp only [Xa,Xb] at h
    obtain ⟨rfl,rfl,rfl⟩:=h
    obtain ⟨n1,n2,k⟩:=key hs'
    refine ⟨hs',?_⟩
    have hap2:Zdi (σ.set s b) ts r=true:=by
     unfold Zdi at hap ⊢
     simp only [Xt] at hap ⊢
     refine ⟨hap.1,XW.2 fun t ht=>?_⟩
     have:=XW.1 hap.2 t ht
     unfold Zgv at this ⊢
     rw [Xv,if_neg (by rintro rfl;exact n1 ht)];exact this
    rw [k]
    simp only [ZaP,hc,if_true,hf,hap2,if_false,Xu]
   ·rename_i hf hap
    simp only [Xa,Xb] at h
    obtain ⟨rfl,rfl,rfl⟩:=h
    have hs:=(Zgz ts σ).1 hs'
    obtain ⟨n1,n2,k⟩:=key hs
    refine ⟨hs,?_⟩
    have hap2:¬Zdi (σ.set s b) ts r=true:=by
     intro h2
     refine hap ?_
     unfold Zdi at h2 ⊢
     simp only [Xt] at h2 ⊢
     refine ⟨h2.1,XW.2 fun t ht=>?_⟩
     have:=XW.1 h2.2 t ht
     unfold Zgv at this ⊢
     rw [Xv,if_neg (by rintro rfl;exact n1 ht)] at this;exact this
    rw [k]
    simp only [ZaP,hc,if_true,hf,if_neg hap2,if_false,Xu]
  ·rename_i hc
   split at h
   ·rename_i lo n k xs' hcl
    simp only [Xa,Xb] at h
    obtain ⟨rfl,rfl,rfl⟩:=h
    have hown:own=1:=by
     split at hcl
     case isFalse=>cases hcl
     unfold Ze5 at hcl
     split at hcl
     case h_2=>cases hcl
     split at hcl
     case isFalse=>cases hcl
     rename_i hcc
     simp only [Xt,decide_eq_true_eq] at hcc
     exact hcc.1
    have hns:sq≠s:=by have:=hne 0 (by omega);simpa using this
    have hs:σ[s]?=some .free:=by rwa [Xv,if_neg hns] at hs'
    obtain ⟨n1,n2,kk⟩:=key hs
    refine ⟨hs,?_⟩
    rw [kk]
    simp only [ZaP]
    rw [if_neg hc,hcl]
    simp only
    rw [Xaq _ _ (Ne.symm hns)]
   split at h
   ·rename_i hcl hcc
    simp only [Xa,Xb] at h
    obtain ⟨rfl,rfl,rfl⟩:=h
    simp only [Xt,decide_eq_true_eq] at hcc
    obtain ⟨⟨⟨c1,c2⟩,c3⟩,c4⟩:=hcc
    have hs:=(Zgz ts σ).1 (Zp8 hp 0 _ c3 hs')
    obtain ⟨n1,n2,kk⟩:=key hs
    refine ⟨hs,?_⟩
    rw [kk]
    have htg:∀ i,i < hp.length->ZaY ids sq (0+i)≠s:=by
     intro i hi e
     rw [XK] at e
     unfold ZaY at e
     rw [Xn] at e
     rcases Xa0 i ids.length with hl | hl
     ·rw [Xz hl] at e
      simp only [Wr] at e
      exact n2 (e ▸ Xaw hl)
     ·rw [XX hl] at e
      exact hne (i - ids.length) (by omega) e
    simp only [ZaP]
    rw [if_neg hc,hcl]
    simp only [c1,c2,decide_true,Bool.true_and,Zx6 n2,c3,Zwx own sq hne,c4,WX,if_true,Zxh n2,ZvO n2 hp 0 _ htg,ZyF ids n2]
   ·cases h
theorem ZCT {f own:Nat} {view:Bool} {args:List AVal} {v:AVal} {c:Cls} (h:Z4 O bf σ sq f own view args=some (v,σ',c)) (hs:σ'[s]?=some .free):σ[s]?=some .free:=by
 unfold Z4 at h
 split at h
 ·cases h
 rename_i xs ts hsh
 unfold Zck at h
 split at h
 case isFalse=>cases h
 generalize Zf (ZV σ ts) 1000 (ZZ xs) []=ids at h
 generalize ZaC view ids.length (O f (ZW (Zd (ZV σ ts) 0 ids) xs) (Ze (ZV σ ts) 0 ids (Zd (ZV σ ts) 0 ids) ids 0))=q at h
 cases q with
 | none=>simp only [ZaP] at h;cases h
 | some q =>
  obtain ⟨r,hp⟩:=q
  simp only [ZaP] at h
  split at h
  ·split at h
   ·simp only [Xa,Xb] at h
    rw [h.2.1];exact hs
   split at h
   ·simp only [Xa,Xb] at h
    rw [h.2.1];exact hs
   ·simp only [Xa,Xb] at h
    rw [<-h.2.1] at hs
    exact (Zgz ts σ).1 hs
  ·split at h
   ·simp only [Xa,Xb] at h
    rw [<-h.2.1,Xv] at hs
    split at hs
    ·split at hs <;> simp at hs
    ·exact hs
   split at h
   ·rename_i hcc
    simp only [Xa,Xb] at h
    rw [<-h.2.1] at hs
    simp only [Xt,decide_eq_true_eq] at hcc
    exact (Zgz ts σ).1 (Zp8 hp 0 _ hcc.1.2 hs)
   ·cases h
theorem ZoH {t:Nat} {cs:List AVal}:∀ {ids:List Nat},(Zct σ ids).lookup t=some cs->σ[t]?=some (.var cs)
 | [],h=>by simp [Zct] at h
 | u::us,h=>by
  simp only [Zct] at h
  split at h
  ·rename_i cs' hu
   rw [XJ] at h
   split at h
   ·rename_i e
    injection h with h;subst h
    have : t=u:=by simpa using e
    rw [this];exact hu
   ·exact ZoH h
  ·exact ZoH h
theorem Zkg {t:Nat} {cs:List AVal}:∀ {ids:List Nat},(Zct σ ids).lookup t=none->t ∈ ids->σ[t]?≠some (.var cs)
 | u::us,h,hm=>by
  intro hv
  simp only [Zct] at h
  rcases XP.1 hm with e | hm
  ·subst e
   rw [hv] at h
   simp only [XJ,beq_self_eq_true] at h
   cases h
  ·split at h
   ·rw [XJ] at h
    split at h
    ·cases h
    ·exact Zkg h hm hv
   ·exact Zkg h hm hv
theorem Zyx {σ0:Za} {ids:List Nat} {t:Nat}:∀ (hp:Za) (j:Nat) (σ:Za),(∀ i x,hp[i]?=some x->ZaY ids sq (j+i)=t->∃ cs,x=.var cs)->(∃ cs,σ[t]?=some (.var cs))->∃ cs,(Za9 σ0 ids sq hp j σ)[t]?=some (.var cs)
 | [],_,_,_,h=>h
 | x::xs,j,σ,hv,⟨cs,h⟩=>by
  simp only [Za9]
  refine Zyx xs (j+1) _ (fun i y hy e=>hv (i+1) y (by simpa using hy) (by rwa [show j+(i+1)=j+1+i by omega])) ?_
  rw [Xv]
  split
  ·rename_i e
   obtain ⟨cs',rfl⟩:=hv 0 x rfl (by simpa using e)
   split
   ·exact ⟨_,rfl⟩
   ·rename_i hl
    rw [e] at hl
    rw [XX (by omega)] at h;cases h
  ·exact ⟨cs,h⟩
theorem ZEN {f own:Nat} {view:Bool} {args:List AVal} {v:AVal} {c:Cls} (h:Z4 O bf σ sq f own view args=some (v,σ',c)) (ha:c.any=true) {t:Nat} {cs:List AVal} (ht:σ[t]?=some (.var cs)) :
  (c.upd.lookup t=none->σ'[t]?=some (.var cs))/\(∀ cs2,c.upd.lookup t=some cs2->σ'[t]?=some (.var cs2)):=by
 unfold Z4 at h
 split at h
 ·cases h
 rename_i xs ts hsh
 generalize hids:Zf (ZV σ ts) 1000 (ZZ xs) []=ids at h
 unfold Zck at h
 split at h
 case isFalse=>cases h
 generalize ZaC view ids.length (O f (ZW (Zd (ZV σ ts) 0 ids) xs) (Ze (ZV σ ts) 0 ids (Zd (ZV σ ts) 0 ids) ids 0))=q at h
 cases q with
 | none=>simp only [ZaP] at h;cases h
 | some q =>
  obtain ⟨r,hp⟩:=q
  simp only [ZaP] at h
  split at h
  ·split at h
   ·simp only [Xa,Xb] at h
    rw [<-h.2.2] at ha;cases ha
   split at h
   ·simp only [Xa,Xb] at h
    rw [<-h.2.2] at ha;cases ha
   ·simp only [Xa,Xb] at h
    rw [<-h.2.2] at ha;cases ha
  ·split at h
   ·simp only [Xa,Xb] at h
    rw [<-h.2.2] at ha;cases ha
   split at h
   ·rename_i hcc
    simp only [Xa,Xb] at h
    obtain ⟨_,rfl,rfl⟩:=h
    simp only [Xt,decide_eq_true_eq] at hcc
    obtain ⟨⟨⟨c1,c2⟩,c3⟩,c4⟩:=hcc
    have hf:=Zrs ts σ ht
    refine ⟨fun hn=>?_,fun cs2 hc2=>ZoH hc2⟩
    have tgt:∀ i,i < hp.length->ZaY ids sq (0+i)=t->i < ids.length/\ids[i]?=some t:=by
     intro i hi e
     rw [XK] at e
     unfold ZaY at e
     rw [Xn] at e
     rcases Xa0 i ids.length with hl | hl
     ·rw [Xz hl] at e ⊢
      simp only [Wr] at e
      exact ⟨hl,by rw [e]⟩
     ·rw [XX hl] at e
      simp only [XaJ] at e
      have:=ZhN c4 (i:=i - ids.length) (by omega)
      rw [e,hf] at this;cases this
    by_cases hm:t ∈ ids
    ·exfalso
     obtain ⟨cs3,h3⟩:=Zyx (σ0:=ZV σ ts) (sq:=sq) (ids:=ids) (t:=t) hp 0 (ZV σ ts) (fun i x hx e=>by
      obtain ⟨hl,hi⟩:=tgt i (Xf.1 hx).1 e
      have:=(Zgr c3 hx).2
      rw [XK,hi] at this
      simp only at this
      have hk:=this.1
      rw [Xn,hf] at hk
      simp only [Wr] at hk
      cases x <;> simp [ZeG] at hk
      exact ⟨_,rfl⟩) ⟨_,hf⟩
     exact Zkg hn hm h3
    ·rw [ZhY (fun i hi e=>hm (by
      obtain ⟨hl,hi⟩:=tgt i hi e
      exact Xx hi))]
     exact hf
   ·cases h
end
end
section
open Go.RowKit
section
variable {P:Program} {O:Z7} {bf:Nat->Bool} {tm tm1 tm2:Tms} {σ σ' σ1 σ2:Za} {sq:Nat}
theorem Zzb {d:Option Nat} {v:AVal} {n:Nat} (h:d≠some n):tget (tput tm d v) n=tget tm n:=by
 cases d with
 | none=>rfl
 | some d =>
  have : d≠n:=by rintro rfl;exact h rfl
  simp only [tput,Zg3,this,if_false]
theorem Zxq {a b:Nat} (u v:AVal) (h:a≠b):∀ tm:Tms,tins b v (tins a u tm)=tins a u (tins b v tm)
 | []=>by
  simp only [tins]
  by_cases h1:a < b
  ·have h2:¬b < a:=by omega
   have h3:¬b=a:=by omega
   simp [h1,h2,h3,tins]
  ·have h2:b < a:=by omega
   have h3:¬a=b:=h
   simp [h1,h2,h3,tins]
 | (e,w)::r=>by
  have ih:=Zxq u v h r
  rcases Nat.lt_trichotomy e a with ha | ha | ha <;> rcases Nat.lt_trichotomy e b with hb | hb | hb
  ·rcases Nat.lt_or_gt_of_ne h with hab | hab
   ·have n1:¬b < a:=by omega
    have n2:¬b=a:=by omega
    simp [tins,ha,hb,hab,n1,n2]
   ·have n1:¬a < b:=by omega
    have n2:¬a=b:=h
    simp [tins,ha,hb,hab,n1,n2]
  ·subst hb
   have n1:¬a < e:=by omega
   have n2:¬a=e:=h
   simp [tins,ha,n1,n2]
  ·have n1:¬a < b:=by omega
   have n2:¬a=b:=h
   have n3:¬e < b:=by omega
   have n4:¬e=b:=by omega
   simp [tins,ha,n1,n2,n3,n4]
  ·subst ha
   have n1:¬b < e:=by omega
   have n2:¬b=e:=fun q=>h q.symm
   simp [tins,hb,n1,n2]
  ·exact absurd (ha.symm.trans hb) h
  ·subst ha
   have n3:¬e < b:=by omega
   have n4:¬e=b:=by omega
   simp [tins,n3,n4]
  ·have n1:¬b < a:=by omega
   have n2:¬b=a:=by omega
   have n3:¬e < a:=by omega
   have n4:¬e=a:=by omega
   simp [tins,hb,n1,n2,n3,n4]
  ·subst hb
   have n3:¬e < a:=by omega
   have n4:¬e=a:=by omega
   simp [tins,n3,n4]
  ·have n1:¬e < a:=by omega
   have n2:¬e=a:=by omega
   have n3:¬e < b:=by omega
   have n4:¬e=b:=by omega
   simp [tins,n1,n2,n3,n4,ih]
theorem ZeD {a b:Option Nat} (u v:AVal) (h:∀ d,a=some d->b≠some d):tput (tput tm a u) b v=tput (tput tm b v) a u:=by
 cases a with
 | none=>cases b <;> rfl
 | some a =>
  cases b with
  | none=>rfl
  | some b =>
   simp only [tput]
   exact Zxq u v (by rintro rfl;exact h a rfl rfl) tm
theorem Zed {g:Option (Nat×Bool)} (h:∀ j b,g=some (j,b)->tget tm j=tget tm1 j):Zbq g tm=Zbq g tm1:=by
 cases g with
 | none=>rfl
 | some g=>simp only [Zbq];rw [h g.1 g.2 rfl]
theorem Zd2 {o:AOp} {j:Nat} {b:Bool} (h:o.guard=some (j,b)):j ∈ o.reads:=by simp [AOp.reads,h]
theorem Zgg {o:AOp} {n:Nat} (h:n ∈ o.ins.reads):n ∈ o.reads:=by simp [AOp.reads,h]
theorem ZfQ {o:AOp} {v:AVal} {c:Cls} (h:Z0 O bf o sq tm σ=some (v,tm1,σ1,c)):tm1=tput tm o.dst v/\∀ tm',(∀ n ∈ o.reads,tget tm n=tget tm' n)->Z0 O bf o sq tm' σ=some (v,tput tm' o.dst v,σ1,c):=by
 unfold Z0 at h
 split at h
 ·cases h
 ·rename_i hw
  simp only [Xa,Xb] at h
  obtain ⟨rfl,rfl,rfl,rfl⟩:=h
  refine ⟨rfl,fun tm' hr=>?_⟩
  simp only [Z0,Zed (g:=o.guard) (tm:=tm') (tm1:=tm) (fun j b hg=>(hr j (Zd2 hg)).symm),hw]
 ·rename_i hw
  split at h
  ·rename_i hf
   split at h
   ·rename_i v' σ'' c' he
    simp only [Xa,Xb] at h
    obtain ⟨rfl,rfl,rfl,rfl⟩:=h
    refine ⟨rfl,fun tm' hr=>?_⟩
    simp only [Z0,Zed (g:=o.guard) (tm:=tm') (tm1:=tm) (fun j b hg=>(hr j (Zd2 hg)).symm),hw]
    rw [if_pos hf,<-Zgw (tm:=tm) (tm':=tm') (fun n hn=>hr n (Zgg hn)),he]
   ·cases h
  ·cases h
theorem ZgQ {o:AOp} {v:AVal} {c:Cls} (h:Z0 O bf o sq tm σ=some (v,tm1,σ1,c)) (hn:ZdB c=true) :
  ∃ ob,tm1=tput tm o.dst v/\σ1=Za3 σ sq ob/\(ob.isSome=true->nsite o.ins≠0/\freeAt σ sq=true)/\ob≠some .free/\Zez σ c.rd /\
   ∀ tm' σ2,(∀ n ∈ o.reads,tget tm n=tget tm' n)->Agree σ σ2 c.rd->(nsite o.ins≠0->freeAt σ sq=true->freeAt σ2 sq=true)->Z0 O bf o sq tm' σ2=some (v,tput tm' o.dst v,Za3 σ2 sq ob,c):=by
 simp only [ZdB,Xt,XaL,WH] at hn
 unfold Z0 at h
 split at h
 ·cases h
 ·rename_i hw
  simp only [Xa,Xb] at h
  obtain ⟨rfl,rfl,rfl,rfl⟩:=h
  refine ⟨none,rfl,rfl,by simp,by simp,ZdM,fun tm' σ2 hr _ _=>?_⟩
  simp only [Z0,Zed (g:=o.guard) (tm:=tm') (tm1:=tm) (fun j b hg=>(hr j (Zd2 hg)).symm),hw,Za3]
 ·rename_i hw
  split at h
  ·rename_i hf
   split at h
   ·rename_i v' σ'' c' he
    simp only [Xa,Xb] at h
    obtain ⟨rfl,rfl,rfl,rfl⟩:=h
    obtain ⟨ob,e1,e2,e3,e4,e5⟩:=ZzN he hn.1 hn.2
    refine ⟨ob,rfl,e1,fun ho=>⟨e2 ho,?_⟩,e3,e4,fun tm' σ2 hr hA hfr=>?_⟩
    ·have:=e2 ho
     simpa [this] using hf
    ·have hf2:(nsite o.ins == 0 || freeAt σ2 sq)=true:=by
      by_cases h0:nsite o.ins=0
      ·simp [h0]
      ·simp only [WQ,beq_iff_eq,h0,false_or] at hf ⊢
       exact hfr h0 hf
     simp only [Z0,Zed (g:=o.guard) (tm:=tm') (tm1:=tm) (fun j b hg=>(hr j (Zd2 hg)).symm),hw]
     have e5':execI O bf tm σ2 sq o.ins=some (v',Za3 σ2 sq ob,c'):=e5 σ2 hA
     rw [if_pos hf2,<-Zgw (tm:=tm) (tm':=tm') (fun n hn=>hr n (Zgg hn)),e5']
   ·cases h
  ·cases h
theorem ZeT {s:Nat}:freeAt σ s=true↔σ[s]?=some .free:=by
 unfold freeAt
 split
 ·rename_i h;simp [h]
 ·rename_i h
  constructor
  ·intro h';cases h'
  ·intro h';exact absurd h' h
theorem Zh4 {s t:Nat} {ob:Option Zq} (h:ob.isSome=true->s≠t):(Za3 σ s ob)[t]?=σ[t]?:=by
 cases ob with
 | none=>rfl
 | some b=>simp only [Za3];rw [Xv,if_neg (h rfl)]
theorem ZA1 {s t:Nat} {ob oc:Option Zq} (h:ob.isSome=true->oc.isSome=true->s≠t):Za3 (Za3 σ s ob) t oc=Za3 (Za3 σ t oc) s ob:=by
 cases ob with
 | none=>cases oc <;> rfl
 | some b =>
  cases oc with
  | none=>rfl
  | some c=>simp only [Za3];exact Xaq b c (h rfl rfl)
theorem ZDn {x y:AVal} (h:ZaK x y=true):x=y:=by
 unfold ZaK at h
 split at h
 all_goals first
  | rfl
  | (cases h;done)
  | (simp only [Xt,decide_eq_true_eq,beq_iff_eq] at h;simp_all;done)
theorem ZjC {o:AOp} {v:AVal} {c:Cls} (hc:Zaf o.ins=true) (h:Z0 O bf o sq tm σ=some (v,tm1,σ1,c)) :
  (Zbq o.guard tm=some false/\v=.tup []/\σ1=σ/\c={}) \/
  (Zbq o.guard tm=some true/\(nsite o.ins == 0 || freeAt σ sq)=true/\∃ f own view args,own<=nsite o.ins/\(∀ tm' σ2 v2 σ3 c2,(∀ n ∈ o.reads,tget tm n=tget tm' n)->(nsite o.ins == 0 || freeAt σ2 sq)=true->Z4 O bf σ2 sq f own view args=some (v2,σ3,c2)->Z0 O bf o sq tm' σ2=some (v2,tput tm' o.dst v2,σ3,c2))/\Z4 O bf σ sq f own view args=some (v,σ1,c)):=by
 unfold Z0 at h
 split at h
 ·cases h
 ·rename_i hw
  simp only [Xa,Xb] at h
  obtain ⟨rfl,rfl,rfl,rfl⟩:=h
  exact XH ⟨hw,rfl,rfl,rfl⟩
 ·rename_i hw
  split at h
  ·rename_i hf
   split at h
   ·rename_i v' σ'' c' he
    simp only [Xa,Xb] at h
    obtain ⟨rfl,rfl,rfl,rfl⟩:=h
    refine XO ⟨hw,hf,?_⟩
    have gen:∀ tm' σ2,(∀ n ∈ o.reads,tget tm n=tget tm' n)->(nsite o.ins == 0 || freeAt σ2 sq)=true->∀ v2 σ3 c2,execI O bf tm σ2 sq o.ins=some (v2,σ3,c2)->Z0 O bf o sq tm' σ2=some (v2,tput tm' o.dst v2,σ3,c2):=by
     intro tm' σ2 hr hf2 v2 σ3 c2 he2
     simp only [Z0,Zed (g:=o.guard) (tm:=tm') (tm1:=tm) (fun j b hg=>(hr j (Zd2 hg)).symm),hw]
     rw [if_pos hf2,<-Zgw (tm:=tm) (tm':=tm') (fun n hn=>hr n (Zgg hn)),he2]
    cases hins:o.ins with
    | call f own view args =>
     rw [hins] at he gen
     simp only [execI] at he gen
     refine ⟨f,own,view,args.map (·.ev tm),X0 _,fun tm' σ2 v2 σ3 c2 hr hf2 h2=>?_,he⟩
     exact gen tm' σ2 hr hf2 v2 σ3 c2 h2
    | callv x args =>
     rw [hins] at he gen
     simp only [execI] at he
     split at he
     ·rename_i f caps hx
      refine ⟨(if f < 1000000 then f else f - 1000000),4,false,(if f < 1000000 then args.map (·.ev tm)++caps else caps++args.map (·.ev tm)),by simp [nsite],fun tm' σ2 v2 σ3 c2 hr hf2 h2=>?_,he⟩
      refine gen tm' σ2 hr hf2 v2 σ3 c2 ?_
      simp only [execI,hx]
      exact h2
     ·cases he
    | _=>rw [hins] at hc;simp [Zaf] at hc
   ·cases h
  ·cases h
theorem ZCv {o:AOp} {v:AVal} {c:Cls} {s:Nat} (hc:Zaf o.ins=true) (h:Z0 O bf o sq tm σ=some (v,tm1,σ1,c)) (hs:σ1[s]?=some .free) (hne:∀ i,i < nsite o.ins->sq+i≠s) :
  σ[s]?=some .free/\∀ b tm',(∀ n ∈ o.reads,tget tm n=tget tm' n)->Z0 O bf o sq tm' (σ.set s b)=some (v,tput tm' o.dst v,σ1.set s b,c):=by
 have h0:=h
 rcases ZjC hc h with ⟨hw,rfl,rfl,rfl⟩ | ⟨hw,hf,f,own,view,args,ho,gen,hg⟩
 ·refine ⟨hs,fun b tm' hr=>?_⟩
  simp only [Z0,Zed (g:=o.guard) (tm:=tm') (tm1:=tm) (fun j b hg=>(hr j (Zd2 hg)).symm),hw]
 ·obtain ⟨k1,k2⟩:=Zyb (b:=.free) hg hs (fun i hi=>hne i (by omega))
  refine ⟨k1,fun b tm' hr=>gen tm' _ _ _ _ hr ?_ (Zyb (b:=b) hg hs (fun i hi=>hne i (by omega))).2⟩
  by_cases h0:nsite o.ins=0
  ·simp [h0]
  ·simp only [WQ,beq_iff_eq,h0,false_or,ZeT] at hf ⊢
   have:=hne 0 (by omega)
   rw [Xv,if_neg (by intro e;exact this (by simpa using e.symm))]
   exact hf
theorem ZFE {o:AOp} {v:AVal} {c:Cls} {s:Nat} (hc:Zaf o.ins=true) (h:Z0 O bf o sq tm σ=some (v,tm1,σ1,c)) (hs:σ1[s]?=some .free):σ[s]?=some .free:=by
 rcases ZjC hc h with ⟨hw,rfl,rfl,rfl⟩ | ⟨hw,hf,f,own,view,args,ho,gen,hg⟩
 ·exact hs
 ·exact ZCT hg hs
theorem ZCf {o:AOp} {v:AVal} {c:Cls} {t:Nat} {cs:List AVal} (hc:Zaf o.ins=true) (h:Z0 O bf o sq tm σ=some (v,tm1,σ1,c)) (ha:c.any=true) (ht:σ[t]?=some (.var cs)) :
  (c.upd.lookup t=none->σ1[t]?=some (.var cs))/\(∀ cs2,c.upd.lookup t=some cs2->σ1[t]?=some (.var cs2)):=by
 rcases ZjC hc h with ⟨hw,rfl,rfl,rfl⟩ | ⟨hw,hf,f,own,view,args,ho,gen,hg⟩
 ·cases ha
 ·exact ZEN hg ha ht
theorem ZzQ {σ σ1 : Za} {sq k bytes : Nat} {x y v : AVal} {c : Cls} {t : Nat} {cs : List AVal} (h : Zaj σ sq k bytes x y = some (v, σ1, c)) (hs : sq ≠ t) (ht : σ[t]? = some (.var cs)) : σ1[t]? = some (.var cs) := by
  have key : ∀ (u : Nat) (b : Zq), (u = sq \/ ∃ b0, σ[u]? = some b0 /\ ∀ cs, b0 ≠ .var cs) -> (σ.set u b)[t]? = some (.var cs) := by
    intro u b hu
    rw [Xv, if_neg, ht]
    rintro rfl
    rcases hu with rfl | ⟨b0, h1, h2⟩
    . exact hs rfl
    . rw [ht] at h1; injection h1 with h1; exact h2 _ h1.symm
  unfold Zaj at h
  repeat' split at h
  all_goals first
    | (cases h; done)
    | (unfold Zef at h
       repeat' split at h
       all_goals first
         | (cases h; done)
         | (simp only [Xa, Xb] at h
            obtain ⟨-, rfl, -⟩ := h
            first
              | exact key _ _ (XH rfl)
              | exact key _ _ (XO ⟨_, by assumption, by simp⟩)))
    | (simp only [Xa, Xb] at h
       obtain ⟨-, rfl, -⟩ := h
       first
         | exact ht
         | exact key _ _ (XH rfl)
         | exact key _ _ (XO ⟨_, by assumption, by simp⟩))
theorem ZAL {o:AOp} {v:AVal} {c:Cls} {t:Nat} {cs:List AVal} (hc:Zak o.ins=true) (h:Z0 O bf o sq tm σ=some (v,tm1,σ1,c)) (ht:σ[t]?=some (.var cs)):σ1[t]?=some (.var cs):=by
 unfold Z0 at h
 split at h
 ·cases h
 ·simp only [Xa,Xb] at h
  obtain ⟨rfl,rfl,rfl,rfl⟩:=h
  exact ht
 ·split at h
  ·rename_i hf
   split at h
   ·rename_i v' σ'' c' he
    simp only [Xa,Xb] at h
    obtain ⟨rfl,rfl,rfl,rfl⟩:=h
    cases hins:o.ins with
    | app k bytes z x y =>
     rw [hins] at he hf
     simp only [execI] at he
     refine ZzQ he ?_ ht
     rintro rfl
     simp [nsite,freeAt,ht] at hf
    | _=>rw [hins] at hc;simp [Zak] at hc
   ·cases h
  ·cases h
theorem Zxu {σ σ1 : Za} {sq k bytes : Nat} {x y v : AVal} {c : Cls} {s : Nat} (h : Zaj σ sq k bytes x y = some (v, σ1, c)) (hs : σ1[s]? = some .free) : σ[s]? = some .free := by
  have key : ∀ (u : Nat) (b0 : Zq), b0 ≠ .free -> (σ.set u b0)[s]? = some .free -> σ[s]? = some .free := by
    intro u b0 hb hh
    rw [Xv] at hh
    split at hh
    . split at hh
      . injection hh with hh; exact absurd hh hb
      . cases hh
    . exact hh
  unfold Zaj at h
  repeat' split at h
  all_goals first
    | (cases h; done)
    | (unfold Zef at h
       repeat' split at h
       all_goals first
         | (cases h; done)
         | (simp only [Xa, Xb] at h
            obtain ⟨-, rfl, -⟩ := h
            exact key _ _ (by simp) hs))
    | (simp only [Xa, Xb] at h
       obtain ⟨-, rfl, -⟩ := h
       first
         | exact hs
         | exact key _ _ (by simp) hs)
theorem ZCV {σ σ1 : Za} {sq k bytes : Nat} {x y v : AVal} {c : Cls} {s : Nat} (ha : c.any = false) (h : Zaj σ sq k bytes x y = some (v, σ1, c)) (hs : σ[s]? = some .free) (hne : sq ≠ s) (b : Zq) : Zaj (σ.set s b) sq k bytes x y = some (v, σ1.set s b, c) := by
  have get : ∀ (t : Nat) (b0 : Zq), σ[t]? = some b0 -> b0 ≠ .free -> (σ.set s b)[t]? = some b0 /\ s ≠ t := by
    intro t b0 h1 h2
    have hst : s ≠ t := by
      rintro rfl
      rw [hs] at h1; injection h1 with h1; exact h2 h1.symm
    exact ⟨by rw [W5 hst]; exact h1, hst⟩
  have hel : ∀ ys us, Zo σ y = some (ys, us) -> Zo (σ.set s b) y = some (ys, us) := by
    intro ys us he
    unfold Zo at he ⊢
    split at he
    . exact he
    . exact he
    . split at he
      . rename_i hr
        rw [(get _ _ hr (by simp)).1]; exact he
      . rename_i hr
        rw [(get _ _ hr (by simp)).1]; exact he
      . cases he
    . cases he
  unfold Zaj at h
  cases he : Zo σ y with
  | none =>
    rw [he] at h
    simp only at h
    unfold Zef at h
    repeat' split at h
    all_goals first
      | (cases h; done)
      | (simp only [Xa, Xb] at h
         obtain ⟨-, -, rfl⟩ := h
         cases ha)
  | some z =>
    obtain ⟨ys, us⟩ := z
    rw [he] at h
    simp only at h
    unfold Zaj
    rw [hel _ _ he]
    simp only
    split at h
    case isFalse => cases h
    rename_i hk
    rw [if_pos hk]
    split at h
    . split at h
      case isFalse => cases h
      rename_i h1
      simp only [Xa, Xb] at h
      obtain ⟨rfl, rfl, rfl⟩ := h
      simp only [h1, if_true]
      rw [Xaq _ _ hne]
    . split at h
      case isFalse => cases h
      rename_i h1
      simp only [h1, and_self, if_true]
      split at h
      . simp only [Xa, Xb] at h
        obtain ⟨rfl, rfl, rfl⟩ := h
        rfl
      . simp only [Xa, Xb] at h
        obtain ⟨rfl, rfl, rfl⟩ := h
        rw [Xaq _ _ hne]
    . split at h
      . rename_i hr
        obtain ⟨g1, g2⟩ := get _ _ hr (by simp)
        rw [g1]
        simp only
        split at h
        case isFalse => cases h
        rename_i h1
        rw [if_pos h1]
        split at h
        . rename_i h2
          rw [if_pos h2]
          simp only [Xa, Xb] at h
          obtain ⟨rfl, rfl, rfl⟩ := h
          rw [Xaq _ _ g2]
        . rename_i h2
          rw [if_neg h2]
          split at h
          case isFalse => cases h
          rename_i h3
          rw [if_pos h3]
          simp only [Xa, Xb] at h
          obtain ⟨rfl, rfl, rfl⟩ := h
          rw [Xaq _ _ g2]
      . cases h
    . cases h
theorem ZuE {o:AOp} {v:AVal} {c:Cls} (hc:Zak o.ins=true) (h:Z0 O bf o sq tm σ=some (v,tm1,σ1,c)) :
  (Zbq o.guard tm=some false/\v=.tup []/\σ1=σ/\c={})\/(freeAt σ sq=true/\∃ k bytes x y,Zaj σ sq k bytes x y=some (v,σ1,c)/\∀ tm' σ2 v2 σ3 c2,(∀ n ∈ o.reads,tget tm n=tget tm' n)->freeAt σ2 sq=true->Zaj σ2 sq k bytes x y=some (v2,σ3,c2)->Z0 O bf o sq tm' σ2=some (v2,tput tm' o.dst v2,σ3,c2)):=by
 unfold Z0 at h
 split at h
 ·cases h
 ·rename_i hw
  simp only [Xa,Xb] at h
  obtain ⟨rfl,rfl,rfl,rfl⟩:=h
  exact XH ⟨hw,rfl,rfl,rfl⟩
 ·rename_i hw
  split at h
  ·rename_i hf
   split at h
   ·rename_i v' σ'' c' he
    simp only [Xa,Xb] at h
    obtain ⟨rfl,rfl,rfl,rfl⟩:=h
    cases hins:o.ins with
    | app k bytes z x y =>
     have he0:=he
     rw [hins] at he hf
     simp only [execI] at he
     refine XO ⟨by simpa [nsite] using hf,k,bytes,_,_,he,fun tm' σ2 v2 σ3 c2 hr hf2 h2=>?_⟩
     simp only [Z0,Zed (g:=o.guard) (tm:=tm') (tm1:=tm) (fun j b hg=>(hr j (Zd2 hg)).symm),hw]
     rw [if_pos (by rw [hf2];simp),<-Zgw (tm:=tm) (tm':=tm') (fun n hn=>hr n (Zgg hn)),hins]
     simp only [execI,h2]
    | _=>rw [hins] at hc;simp [Zak] at hc
   ·cases h
  ·cases h
theorem Zul {t:Nat} {cs:List AVal}:∀ (ts:List Nat) (σ:Za),σ[t]?=some (.var cs)->(ZV σ ts)[t]?=some (.var cs)
 | [],σ,h=>h
 | u::ts,σ,h=>by
  unfold ZV
  split
  ·rename_i g k xs hu
   refine Zul ts _ ?_
   rw [Xv,if_neg,h]
   rintro rfl
   rw [hu] at h;cases h
  ·exact Zul ts σ h
theorem ZFt {σ σ1 : Za} {k : Nat} {a x v : AVal} {c : Cls} {t : Nat} {cs : List AVal} (h : stA σ k a x = some (v, σ1, c)) (hw : c.wr.contains t = false) (ht : σ[t]? = some (.var cs)) : σ1[t]? = some (.var cs) := by
  unfold stA at h
  repeat' split at h
  all_goals first
    | (cases h; done)
    | (simp only [Xa, Xb] at h
       obtain ⟨-, rfl, rfl⟩ := h
       simp only [XaN, XF, Xa3, Xbf, beq_eq_false_iff_ne, ne_eq] at hw
       first
         | (rw [Xv, if_neg (fun e => hw e.symm)]; exact ht)
         | (rw [Xv, if_neg (fun e => hw.1 e.symm)]; exact Zul _ _ ht))
theorem ZFq {σ σ1 : Za} {s kc : Nat} {z m k v : AVal} {c : Cls} {t : Nat} {cs : List AVal} (hs : σ[s]? = some .free) (h : Zdd σ s kc z m k = some (v, σ1, c)) (hw : c.wr.contains t = false) (ht : σ[t]? = some (.var cs)) : σ1[t]? = some (.var cs) := by
  have hne : t ≠ s := by rintro rfl; rw [hs] at ht; cases ht
  unfold Zdd at h
  repeat' split at h
  all_goals first
    | (cases h; done)
    | (simp only [Xa, Xb] at h
       obtain ⟨-, rfl, rfl⟩ := h
       simp only [XaN, XF, Xa3, beq_eq_false_iff_ne, ne_eq] at hw
       first
         | exact ht
         | (rw [Xv, if_neg (fun e => hw e.symm), Xv, if_neg (fun e => hne e.symm)]; exact ht))
theorem ZAY {σ σ1 : Za} {s kc : Nat} {z m k v : AVal} {c : Cls} {t : Nat} (h : Zdd σ s kc z m k = some (v, σ1, c)) (hw : c.wr.contains t = false) (hne : t ≠ s) : σ1[t]? = σ[t]? := by
  unfold Zdd at h
  repeat' split at h
  all_goals first
    | (cases h; done)
    | (simp only [Xa, Xb] at h
       obtain ⟨-, rfl, rfl⟩ := h
       simp only [XaN, XF, Xa3, beq_eq_false_iff_ne, ne_eq] at hw
       first
         | rfl
         | (rw [Xv, if_neg (fun e => hw e.symm), Xv, if_neg (fun e => hne e.symm)]))
theorem ZuI {t:Nat}:∀ (ts:List Nat) (σ:Za),ts.contains t=false->(ZV σ ts)[t]?=σ[t]?
 | [],σ,_=>rfl
 | u::ts,σ,h=>by
  simp only [XaN,Xbf,beq_eq_false_iff_ne,ne_eq] at h
  unfold ZV
  split
  ·rw [ZuI ts _ h.2,Xv,if_neg (fun e=>h.1 e.symm)]
  ·exact ZuI ts _ h.2
theorem ZCA {σ σ1 : Za} {k : Nat} {a x v : AVal} {c : Cls} {t : Nat} (h : stA σ k a x = some (v, σ1, c)) (hw : c.wr.contains t = false) : σ1[t]? = σ[t]? := by
  unfold stA at h
  repeat' split at h
  all_goals first
    | (cases h; done)
    | (simp only [Xa, Xb] at h
       obtain ⟨-, rfl, rfl⟩ := h
       simp only [XaN, XF, Xa3, Xbf, beq_eq_false_iff_ne, ne_eq] at hw
       first
         | (rw [Xv, if_neg (fun e => hw e.symm)])
         | (rw [Xv, if_neg (fun e => hw.1 e.symm)]; exact ZuI _ _ hw.2))
theorem ZAe {o:AOp} {v:AVal} {c:Cls} {t:Nat} (hc:Zau o.ins=true) (h:Z0 O bf o sq tm σ=some (v,tm1,σ1,c)) (hw:c.wr.contains t=false) (hne:t≠sq):σ1[t]?=σ[t]?:=by
 unfold Z0 at h
 split at h
 ·cases h
 ·simp only [Xa,Xb] at h
  obtain ⟨rfl,rfl,rfl,rfl⟩:=h
  rfl
 ·split at h
  ·split at h
   ·rename_i v' σ'' c' he
    simp only [Xa,Xb] at h
    obtain ⟨rfl,rfl,rfl,rfl⟩:=h
    cases hins:o.ins with
    | st k x y =>
     rw [hins] at he
     simp only [execI] at he
     exact ZCA he hw
    | glook kc z m k =>
     rw [hins] at he
     simp only [execI] at he
     exact ZAY he hw hne
    | _=>rw [hins] at hc;simp [Zau] at hc
   ·cases h
  ·cases h
theorem ZCS {o:AOp} {v:AVal} {c:Cls} {t:Nat} {cs:List AVal} (hc:Zau o.ins=true) (hw:c.wr.contains t=false) (h:Z0 O bf o sq tm σ=some (v,tm1,σ1,c)) (ht:σ[t]?=some (.var cs)):σ1[t]?=some (.var cs):=by
 unfold Z0 at h
 split at h
 ·cases h
 ·simp only [Xa,Xb] at h
  obtain ⟨rfl,rfl,rfl,rfl⟩:=h
  exact ht
 ·split at h
  ·rename_i hf
   split at h
   ·rename_i v' σ'' c' he
    simp only [Xa,Xb] at h
    obtain ⟨rfl,rfl,rfl,rfl⟩:=h
    cases hins:o.ins with
    | st k x y =>
     rw [hins] at he hf
     simp only [execI] at he
     exact ZFt he hw ht
    | glook kc z m k =>
     rw [hins] at he hf
     simp only [execI] at he
     exact ZFq (by simpa [nsite,ZeT] using hf) he hw ht
    | _=>rw [hins] at hc;simp [Zau] at hc
   ·cases h
  ·cases h
theorem Zuq {o : AOp} {v : AVal} {c ci : Cls} (hl : Zai o.ins = true) (h : Z0 O bf o sq tm σ = some (v, tm1, σ1, c)) (hg : Zaq c ci = true) :
    ∃ t k off, c.got = [(t, k, off, v)] /\ σ1 = σ /\ tm1 = tput tm o.dst v /\ (∀ tm' σ2, (∀ n ∈ o.reads, tget tm n = tget tm' n) -> (∃ cs, σ2[t]? = some (.var cs) /\ partA k cs off = some v) -> Z0 O bf o sq tm' σ2 = some (v, tput tm' o.dst v, σ2, c)) /\ ∃ cs, σ[t]? = some (.var cs) /\ partA k cs off = some v := by
  unfold Z0 at h
  split at h
  . cases h
  . simp only [Xa, Xb] at h
    obtain ⟨rfl, rfl, rfl, rfl⟩ := h
    simp [Zaq] at hg
  . rename_i hw
    split at h
    . rename_i hf
      split at h
      . rename_i v' σ'' c' he
        simp only [Xa, Xb] at h
        obtain ⟨rfl, rfl, rfl, rfl⟩ := h
        cases hins : o.ins with
        | ld k a =>
          rw [hins] at he hf
          simp only [execI] at he
          have he0 := he
          unfold ldA at he
          split at he
          . rename_i t off ha
            split at he
            . rename_i cs hcs
              split at he
              . rename_i v2 hp
                simp only [Xa, Xb] at he
                obtain ⟨rfl, rfl, rfl⟩ := he
                refine ⟨t, k, off, rfl, rfl, rfl, fun tm' σ2 hr ⟨cs2, h1, h2⟩ => ?_, cs, hcs, hp⟩
                simp only [Z0, Zed (g := o.guard) (tm := tm') (tm1 := tm) (fun j b hg => (hr j (Zd2 hg)).symm), hw]
                rw [if_pos (by rw [hins]; rfl), <- Zgw (tm := tm) (tm' := tm') (fun n hn => hr n (Zgg hn)), hins]
                simp only [execI, ha, ldA, h1, h2]
              . cases he
            . cases he
          . repeat' split at he
            all_goals first
              | (cases he; done)
              | (simp only [Xa, Xb] at he
                 obtain ⟨rfl, rfl, rfl⟩ := he
                 simp [Zaq] at hg)
          . repeat' split at he
            all_goals first
              | (cases he; done)
              | (simp only [Xa, Xb] at he
                 obtain ⟨rfl, rfl, rfl⟩ := he
                 simp [Zaq] at hg)
          . cases he
        | _ => rw [hins] at hl; simp [Zai] at hl
      . cases h
    . cases h
theorem ZF6 {o:AOp} {v:AVal} {c:Cls} {s:Nat} (hc:Zaf o.ins=true\/(Zak o.ins=true/\(!c.any)=true)) (h:Z0 O bf o sq tm σ=some (v,tm1,σ1,c)) (hs:σ1[s]?=some .free):σ[s]?=some .free:=by
 rcases hc with hc | ⟨hc,_⟩
 ·exact ZFE hc h hs
 ·rcases ZuE hc h with ⟨_,_,rfl,_⟩ | ⟨_,_,_,_,_,ha,_⟩
  ·exact hs
  ·exact Zxu ha hs
theorem ZDR {o:AOp} {v:AVal} {c:Cls} {s:Nat} (hc:Zaf o.ins=true\/(Zak o.ins=true/\(!c.any)=true)) (h:Z0 O bf o sq tm σ=some (v,tm1,σ1,c)) (hs:σ1[s]?=some .free) (hne:∀ i,i < nsite o.ins->sq+i≠s) :
  σ[s]?=some .free/\∀ b tm',(∀ n ∈ o.reads,tget tm n=tget tm' n)->Z0 O bf o sq tm' (σ.set s b)=some (v,tput tm' o.dst v,σ1.set s b,c):=by
 rcases hc with hc | ⟨hc,hany⟩
 ·exact ZCv hc h hs hne
 ·have hn:sq≠s:=by
   have : nsite o.ins=1:=by
    cases hins:o.ins with
    | app k bytes z x y=>rfl
    | _=>rw [hins] at hc;simp [Zak] at hc
   simpa using hne 0 (by omega)
  rcases ZuE hc h with ⟨hw,rfl,rfl,rfl⟩ | ⟨hf,k,bytes,x,y,ha,gen⟩
  ·refine ⟨hs,fun b tm' hr=>?_⟩
   simp only [Z0,Zed (g:=o.guard) (tm:=tm') (tm1:=tm) (fun j b hg=>(hr j (Zd2 hg)).symm),hw]
  ·have h0:=Zxu ha hs
   refine ⟨h0,fun b tm' hr=>gen tm' _ _ _ _ hr ?_ (ZCV (by simpa using hany) ha h0 hn b)⟩
   rw [ZeT] at hf ⊢
   rw [W5 (fun e=>hn e.symm)]
   exact hf
def Frz (σ σ2:Za):Prop:=∀ t:Nat,σ2[t]?=σ[t]?\/∃ (g k:Nat) (xs:List AVal),σ[t]?=some (Zq.row g k xs)/\σ2[t]?=some (Zq.frow g k xs)
theorem Frz.refl (σ:Za):Frz σ σ:=fun _=>XH rfl
theorem ZiL:∀ (ts:List Nat) (σ:Za),Frz σ (ZV σ ts)
 | [],σ=>Frz.refl σ
 | t::ts,σ=>by
  unfold ZV
  split
  ·rename_i g k xs ht
   intro u
   have ih:=ZiL ts (σ.set t (.frow g k xs)) u
   have htl:t < σ.length:=(Xf.1 ht).1
   by_cases e:u=t
   ·subst e
    have e1:(σ.set u (.frow g k xs))[u]?=some (.frow g k xs):=by simp [htl]
    rw [e1] at ih
    rcases ih with ih | ⟨_,_,_,ih,_⟩
    ·exact XO ⟨g,k,xs,ht,ih⟩
    ·cases ih
   ·rw [W5 (fun h=>e h.symm)] at ih
    exact ih
  ·exact ZiL ts σ
theorem ZwK {σ σ2 σ' : Za} {k : Option Nat} {a v : AVal} {c : Cls} (hf : Frz σ σ2) (h : ldA σ k a = some (v, σ', c)) : σ' = σ /\ ldA σ2 k a = some (v, σ2, c) := by
  unfold ldA at h ⊢
  split at h
  . rename_i t o
    rcases hf t with e | ⟨_, _, _, e1, _⟩
    . simp only [e]
      repeat' split at h
      all_goals first
        | (cases h; done)
        | (simp only [Xa, Xb] at h
           obtain ⟨rfl, rfl, rfl⟩ := h
           simp_all)
    . rw [e1] at h; cases h
  . rename_i t g i o
    rcases hf t with e | ⟨g1, k1, xs1, e1, e2⟩
    . simp only [e]
      repeat' split at h
      all_goals first
        | (cases h; done)
        | (simp only [Xa, Xb] at h
           obtain ⟨rfl, rfl, rfl⟩ := h
           simp_all)
    . simp only [e1] at h
      simp only [e2]
      repeat' split at h
      all_goals first
        | (cases h; done)
        | (simp only [Xa, Xb] at h
           obtain ⟨rfl, rfl, rfl⟩ := h
           simp_all)
  . repeat' split at h
    all_goals first
      | (cases h; done)
      | (simp only [Xa, Xb] at h
         obtain ⟨rfl, rfl, rfl⟩ := h
         simp_all)
  . cases h
theorem Zyl {σ σ2 σ' : Za} {k : Nat} {a i v : AVal} {c : Cls} (hf : Frz σ σ2) (h : ZaG σ k a i = some (v, σ', c)) : σ' = σ /\ ZaG σ2 k a i = some (v, σ2, c) := by
  unfold ZaG at h ⊢
  split at h
  . split at h
    . rename_i h0
      rw [if_pos h0]
      split at h
      . repeat' split at h
        all_goals first
          | (cases h; done)
          | (simp only [Xa, Xb] at h
             obtain ⟨rfl, rfl, rfl⟩ := h
             simp_all)
      . rename_i t g p n
        rcases hf t with e | ⟨g1, k1, xs1, e1, e2⟩
        . simp only [e]
          repeat' split at h
          all_goals first
            | (cases h; done)
            | (simp only [Xa, Xb] at h
               obtain ⟨rfl, rfl, rfl⟩ := h
               simp_all)
        . simp only [e1] at h
          simp only [e2]
          repeat' split at h
          all_goals first
            | (cases h; done)
            | (simp only [Xa, Xb] at h
               obtain ⟨rfl, rfl, rfl⟩ := h
               simp_all)
      . cases h
    . cases h
  . cases h
theorem ZDd {o:AOp} {v:AVal} {c:Cls} (hl:ZaA o.ins=true) (h:Z0 O bf o sq tm σ=some (v,tm1,σ1,c)) :
  σ1=σ/\tm1=tput tm o.dst v/\∀ tm' σ2,(∀ n ∈ o.reads,tget tm n=tget tm' n)->Frz σ σ2->Z0 O bf o sq tm' σ2=some (v,tput tm' o.dst v,σ2,c):=by
 unfold Z0 at h
 split at h
 ·cases h
 ·rename_i hw
  simp only [Xa,Xb] at h
  obtain ⟨rfl,rfl,rfl,rfl⟩:=h
  refine ⟨rfl,rfl,fun tm' σ2 hr _=>?_⟩
  simp only [Z0,Zed (g:=o.guard) (tm:=tm') (tm1:=tm) (fun j b hg=>(hr j (Zd2 hg)).symm),hw]
 ·rename_i hw
  split at h
  ·rename_i hf
   split at h
   ·rename_i v' σ'' c' he
    simp only [Xa,Xb] at h
    obtain ⟨rfl,rfl,rfl,rfl⟩:=h
    cases hins:o.ins with
    | ld k a =>
     rw [hins] at he
     simp only [execI] at he
     have e1:=(ZwK (Frz.refl σ) he).1
     subst e1
     refine ⟨rfl,rfl,fun tm' σ2 hr hz=>?_⟩
     simp only [Z0,Zed (g:=o.guard) (tm:=tm') (tm1:=tm) (fun j b hg=>(hr j (Zd2 hg)).symm),hw]
     rw [if_pos (by rw [hins];rfl),<-Zgw (tm:=tm) (tm':=tm') (fun n hn=>hr n (Zgg hn)),hins]
     simp only [execI,(ZwK hz he).2]
    | iaddr k x i =>
     rw [hins] at he
     simp only [execI] at he
     have e1:=(Zyl (Frz.refl σ) he).1
     subst e1
     refine ⟨rfl,rfl,fun tm' σ2 hr hz=>?_⟩
     simp only [Z0,Zed (g:=o.guard) (tm:=tm') (tm1:=tm) (fun j b hg=>(hr j (Zd2 hg)).symm),hw]
     rw [if_pos (by rw [hins];rfl),<-Zgw (tm:=tm) (tm':=tm') (fun n hn=>hr n (Zgg hn)),hins]
     simp only [execI,(Zyl hz he).2]
    | _=>rw [hins] at hl;simp [ZaA] at hl
   ·cases h
  ·cases h
theorem ZCg {o:AOp} {v:AVal} {c:Cls} (hl:Zaz o.ins=true) (h:Z0 O bf o sq tm σ=some (v,tm1,σ1,c)):Frz σ σ1:=by
 unfold Z0 at h
 split at h
 ·cases h
 ·simp only [Xa,Xb] at h
  obtain ⟨rfl,rfl,rfl,rfl⟩:=h
  exact Frz.refl _
 ·split at h
  ·split at h
   ·rename_i v' σ'' c' he
    simp only [Xa,Xb] at h
    obtain ⟨rfl,rfl,rfl,rfl⟩:=h
    cases hins:o.ins with
    | bslice own k n z parts =>
     rw [hins] at hl he
     simp only [Zaz,WH] at hl
     subst hl
     simp only [execI] at he
     split at he
     ·cases he
     ·rename_i ys ts hv
      split at he
      ·simp only [Xu,if_false,Xa,Xb] at he
       obtain ⟨_,rfl,_⟩:=he
       exact ZiL ts σ
      ·cases he
    | _=>rw [hins] at hl;simp [Zaz] at hl
   ·cases h
  ·cases h
theorem ZA7 {f own:Nat} {view:Bool} {args:List AVal} {v:AVal} {c:Cls} (h:Z4 O bf σ sq f own view args=some (v,σ',c)) (ha:c.any=true) {t:Nat} {cs:List AVal} (hn:c.upd.lookup t=none) (hlt:t < sq) (ht:σ'[t]?=some (.var cs)):σ[t]?=some (.var cs):=by
 unfold Z4 at h
 split at h
 ·cases h
 rename_i xs ts hsh
 generalize hids:Zf (ZV σ ts) 1000 (ZZ xs) []=ids at h
 unfold Zck at h
 split at h
 case isFalse=>cases h
 generalize ZaC view ids.length (O f (ZW (Zd (ZV σ ts) 0 ids) xs) (Ze (ZV σ ts) 0 ids (Zd (ZV σ ts) 0 ids) ids 0))=q at h
 cases q with
 | none=>simp only [ZaP] at h;cases h
 | some q =>
  obtain ⟨r,hp⟩:=q
  simp only [ZaP] at h
  split at h
  ·split at h
   ·simp only [Xa,Xb] at h
    rw [<-h.2.2] at ha;cases ha
   split at h
   ·simp only [Xa,Xb] at h
    rw [<-h.2.2] at ha;cases ha
   ·simp only [Xa,Xb] at h
    rw [<-h.2.2] at ha;cases ha
  ·split at h
   ·simp only [Xa,Xb] at h
    rw [<-h.2.2] at ha;cases ha
   split at h
   ·rename_i hcc
    simp only [Xa,Xb] at h
    obtain ⟨_,rfl,rfl⟩:=h
    have hm:t ∉ ids:=fun hm=>Zkg hn hm ht
    rw [ZhY (fun i hi e=>by
     rw [XK] at e
     unfold ZaY at e
     rw [Xn] at e
     rcases Xa0 i ids.length with hl | hl
     ·rw [Xz hl] at e
      simp only [Wr] at e
      exact hm (e ▸ Xaw hl)
     ·rw [XX hl] at e
      simp only [XaJ] at e
      omega)] at ht
    rcases ZiL ts σ t with e | ⟨g1,k1,xs1,e1,e2⟩
    ·rw [<-e];exact ht
    ·rw [e2] at ht;cases ht
   ·cases h
theorem ZC7 {o:AOp} {v:AVal} {c:Cls} {t:Nat} {cs:List AVal} (hc:Zaf o.ins=true) (h:Z0 O bf o sq tm σ=some (v,tm1,σ1,c)) (ha:c.any=true) (hn:c.upd.lookup t=none) (hlt:t < sq) (ht:σ1[t]?=some (.var cs)):σ[t]?=some (.var cs):=by
 rcases ZjC hc h with ⟨hw,rfl,rfl,rfl⟩ | ⟨hw,hf,f,own,view,args,ho,gen,hg⟩
 ·cases ha
 ·exact ZA7 hg ha hn hlt ht
theorem ZFf {σ σ1 : Za} {sq k bytes : Nat} {x y v : AVal} {c : Cls} (h : Zaj σ sq k bytes x y = some (v, σ1, c)) (ha : c.any = false) {t : Nat} (hw : c.wr.contains t = false) (hs : t ≠ sq) : σ1[t]? = σ[t]? := by
  unfold Zaj at h
  split at h
  . unfold Zef at h
    repeat' split at h
    all_goals first
      | (cases h; done)
      | (simp only [Xa, Xb] at h
         obtain ⟨_, _, rfl⟩ := h
         cases ha)
  . repeat' split at h
    all_goals first
      | (cases h; done)
      | (simp only [Xa, Xb] at h
         obtain ⟨_, rfl, rfl⟩ := h
         first
         | rfl
         | (rw [W5 (fun e => hs e.symm)])
         | (rw [W5 (by rintro rfl; simp at hw)]))
theorem ZvE {oj oi:AOp} {sj si:Nat} {vj vi:AVal} {cj ci:Cls} (hj:Z0 O bf oj sj tm σ=some (vj,tm1,σ1,cj)) (hi:Z0 O bf oi si tm1 σ1=some (vi,tm2,σ2,ci)) (hap:oj.apartT oi=true)
  (hp:Zc8 oj oi cj ci sj=true) (hs:nsite oj.ins≠0->nsite oi.ins≠0->sj≠si) (hs2:sj+nsite oj.ins<=si):∃ tm1' σ1',Z0 O bf oi si tm σ=some (vi,tm1',σ1',ci)/\Z0 O bf oj sj tm1' σ1'=some (vj,tm2,σ2,cj):=by
 have hd:(∀ d,oj.dst=some d->d ∉ oi.reads)/\(∀ d,oj.dst=some d->oi.dst≠some d)/\(∀ d,oi.dst=some d->d ∉ oj.reads):=by
  unfold AOp.apartT at hap
  simp only [Xt] at hap
  refine ⟨fun d hd hr=>?_,fun d hd he=>?_,fun d hd hr=>?_⟩
  ·have:=hap.1;rw [hd] at this;simp [hr] at this
  ·have:=hap.1;rw [hd] at this;simp [he] at this
  ·have:=hap.2;rw [hd] at this;simp [hr] at this
 obtain ⟨d1,d2,d3⟩:=hd
 have rdI:∀ v n,n ∈ oi.reads->tget (tput tm oj.dst v) n=tget tm n:=fun v n hn=>Zzb (by intro e;exact d1 n e hn)
 have rdJ:∀ v n,n ∈ oj.reads->tget tm n=tget (tput tm oi.dst v) n:=fun v n hn=>(Zzb (by intro e;exact d3 n e hn)).symm
 unfold Zc8 at hp
 simp only [WQ,Xt] at hp
 have noWr_of:∀ {o:AOp} {c:Cls},ZcM o c=true->ZdB c=true/\c.rd=[]/\nsite o.ins=0:=by
  intro o c h
  simp only [ZcM,Xt,beq_iff_eq,XaL] at h
  exact ⟨by simp [ZdB,h.1.2,h.2],h.1.1.2,h.1.1.1⟩
 rcases hp with (((((((hp | hp) | ⟨⟨hp1,hp2⟩,hp3⟩) | ⟨hp1,hp2,hp3⟩) | ⟨⟨⟨hp1,hp2⟩,hp3⟩,hp4⟩) | ⟨⟨hp1,hp2⟩,hp4⟩) | ⟨hp1,hp2⟩) | ⟨⟨⟨hp1,hp2⟩,hp3⟩,hp4⟩) | ⟨⟨⟨hp1,hp3⟩,hp4⟩,hp5⟩
 ·obtain ⟨w1,w2,w3⟩:=noWr_of hp
  obtain ⟨ob,rfl,rfl,e3,_,_,e6⟩:=ZgQ hj w1
  have hob:ob=none:=by
   cases ob with
   | none=>rfl
   | some b=>exact absurd w3 (e3 rfl).1
  subst hob
  simp only [Za3] at hi e6 ⊢
  obtain ⟨rfl,f2⟩:=ZfQ hi
  have g1:=f2 tm (rdI vj)
  refine ⟨_,_,g1,?_⟩
  rw [e6 _ σ2 (rdJ vi) (by rw [w2];intro t ht;simp at ht) (fun h=>absurd w3 h),ZeD vi vj (fun d hd he=>d2 d he hd)]
 ·obtain ⟨w1,w2,w3⟩:=noWr_of hp
  obtain ⟨ob,rfl,rfl,e3,_,_,e6⟩:=ZgQ hi w1
  have hob:ob=none:=by
   cases ob with
   | none=>rfl
   | some b=>exact absurd w3 (e3 rfl).1
  subst hob
  simp only [Za3] at e6 ⊢
  obtain ⟨rfl,f2⟩:=ZfQ hj
  have g1:=e6 tm σ (rdI vj) (by rw [w2];intro t ht;simp at ht) (fun h=>absurd w3 h)
  refine ⟨_,_,g1,?_⟩
  rw [f2 _ (rdJ vi),ZeD vi vj (fun d hd he=>d2 d he hd)]
 ·obtain ⟨ob,rfl,rfl,a3,a4,a5,a6⟩:=ZgQ hj hp1
  obtain ⟨oc,rfl,rfl,b3,b4,b5,b6⟩:=ZgQ hi hp2
  have hsne:ob.isSome=true->nsite oi.ins≠0->sj≠si:=fun h1 h2=>hs (a3 h1).1 h2
  have hrdi:∀ t ∈ ci.rd,ob.isSome=true->sj≠t:=by
   intro t ht ho e
   subst e
   rcases hp3 with hp3 | hp3
   ·exact (a3 ho).1 (by simpa using hp3)
   ·simp [ht] at hp3
  have g1:=b6 tm σ (rdI vj) (fun t ht=>(Zh4 (hrdi t ht)).symm) (fun h2 hf=>by
   rw [ZeT] at hf ⊢
   rwa [Zh4 (fun ho=>hsne ho h2)] at hf)
  refine ⟨_,_,g1,?_⟩
  have hsi:oc.isSome=true->σ[si]?=some .free:=by
   intro ho
   have:=(b3 ho).2
   rw [ZeT,Zh4 (fun ho'=>hsne ho' (b3 ho).1)] at this
   exact this
  rw [a6 _ (Za3 σ si oc) (rdJ vi) (fun t ht=>Zh4 (fun ho e=>by
   subst e
   obtain ⟨x,hx,hne⟩:=a5 si ht
   rw [hsi ho] at hx;injection hx with hx;exact hne hx.symm)) (fun h1 hf=>by
   rw [ZeT] at hf ⊢
   rwa [Zh4 (fun ho=>(hs h1 (b3 ho).1).symm)]),ZeD vi vj (fun d hd he=>d2 d he hd),ZA1 (fun h1 h2=>(hs (a3 h2).1 (b3 h1).1).symm)]
 ·obtain ⟨oc,rfl,rfl,b3,b4,b5,b6⟩:=ZgQ hi hp2
  have hrd:ci.rd=[]:=by simpa using hp3
  obtain ⟨rfl,f2⟩:=ZfQ hj
  cases oc with
  | none =>
   simp only [Za3] at b6 ⊢
   have g1:=b6 tm σ (rdI vj) (by rw [hrd];intro t ht;simp at ht) (fun h1 h2=>by
    rw [ZeT] at h2 ⊢
    exact ZF6 hp1 hj h2)
   refine ⟨_,_,g1,?_⟩
   rw [f2 _ (rdJ vi),ZeD vi vj (fun d hd he=>d2 d he hd)]
  | some b =>
   have hfr:=(b3 rfl).2
   rw [ZeT] at hfr
   obtain ⟨k1,k2⟩:=ZDR hp1 hj hfr (fun i hi=>by omega)
   have g1:=b6 tm σ (rdI vj) (by rw [hrd];intro t ht;simp at ht) (fun h1 h2=>by
    rw [ZeT] at h2 ⊢;exact k1)
   refine ⟨_,_,g1,?_⟩
   have:=k2 b (tput tm oi.dst vi) (rdJ vi)
   simp only [Za3]
   rw [this,ZeD vi vj (fun d hd he=>d2 d he hd)]
 ·obtain ⟨t,k,o,q1,rfl,rfl,q4,q5⟩:=Zuq hp1 hj hp4
  obtain ⟨rfl,f2⟩:=ZfQ hi
  have g1:=f2 tm (rdI vj)
  refine ⟨_,_,g1,?_⟩
  obtain ⟨cs,q6,q7⟩:=q5
  obtain ⟨r1,r2⟩:=ZCf hp2 hi hp3 q6
  have hv:∃ cs,σ2[t]?=some (.var cs)/\partA k cs o=some vj:=by
   unfold Zaq at hp4
   rw [q1] at hp4
   simp only at hp4
   split at hp4
   ·rename_i hl;exact ⟨cs,r1 hl,q7⟩
   ·rename_i cs2 hl
    split at hp4
    ·rename_i u hu
     rw [ZDn hp4] at hu
     exact ⟨cs2,r2 cs2 hl,hu⟩
    ·cases hp4
  rw [q4 _ σ2 (rdJ vi) hv,ZeD vi vj (fun d hd he=>d2 d he hd)]
 ·obtain ⟨t,k,o,q1,rfl,rfl,q4,q5⟩:=Zuq hp1 hj hp4
  obtain ⟨rfl,f2⟩:=ZfQ hi
  have g1:=f2 tm (rdI vj)
  refine ⟨_,_,g1,?_⟩
  obtain ⟨cs,q6,q7⟩:=q5
  have hk:σ2[t]?=some (.var cs):=by
   rcases hp2 with hp2 | ⟨hp2,hp3⟩
   ·exact ZAL hp2 hi q6
   ·refine ZCS hp2 ?_ hi q6
    unfold ZaH at hp3
    rw [q1] at hp3
    simpa using hp3
  rw [q4 _ σ2 (rdJ vi) ⟨cs,hk,q7⟩,ZeD vi vj (fun d hd he=>d2 d he hd)]
 ·obtain ⟨rfl,rfl,q⟩:=ZDd hp1 hj
  obtain ⟨rfl,f2⟩:=ZfQ hi
  have g1:=f2 tm (rdI vj)
  refine ⟨_,_,g1,?_⟩
  rw [q _ σ2 (rdJ vi) (ZCg hp2 hi),ZeD vi vj (fun d hd he=>d2 d he hd)]
 ·have hgot:∃ t0 k0 o0 v0,ci.got=[(t0,k0,o0,v0)]/\t0 < sj/\cj.upd.lookup t0=none:=by
   unfold ZaM at hp4
   split at hp4
   ·rename_i t0 k0 o0 v0 hg
    simp only [Xt,decide_eq_true_eq,Option.isNone_iff_eq_none] at hp4
    exact ⟨t0,k0,o0,v0,hg,hp4.1,hp4.2⟩
   ·cases hp4
  obtain ⟨t0,k0,o0,v0,hg,hlt,hnone⟩:=hgot
  have hg0:Zaq ci {}=true:=by
   unfold Zaq
   rw [hg]
   rfl
  obtain ⟨rfl,f2⟩:=ZfQ hj
  obtain ⟨t,k,o,q1,rfl,rfl,q4,cs,q6,q7⟩:=Zuq hp2 hi hg0
  rw [hg] at q1
  injection q1 with q1 _
  injection q1 with q1 _
  subst q1
  have hk:=ZC7 hp1 hj hp3 hnone hlt q6
  have g1:=q4 tm σ (rdI vj) ⟨cs,hk,q7⟩
  refine ⟨_,_,g1,?_⟩
  rw [f2 _ (rdJ vi),ZeD vi vj (fun d hd he=>d2 d he hd)]
 ·obtain ⟨oc,rfl,rfl,b3,b4,b5,b6⟩:=ZgQ hi hp3
  have hn0:nsite oi.ins=0:=by simpa using hp4
  have hoc:oc=none:=by
   cases oc with
   | none=>rfl
   | some b=>exact absurd hn0 (b3 rfl).1
  subst hoc
  simp only [Za3] at b6 ⊢
  obtain ⟨rfl,f2⟩:=ZfQ hj
  have far:∀ t ∈ ci.rd,σ[t]?=σ1[t]?:=by
   intro t ht
   have hq:=XW.1 hp5 t ht
   simp only [Xt,WH,bne_iff_ne,ne_eq] at hq
   rcases hp1 with ⟨hp1,hp2⟩ | hp1
   ·rcases ZuE hp1 hj with ⟨_,_,rfl,_⟩ | ⟨_,_,_,_,_,ha,_⟩
    ·rfl
    ·exact (ZFf ha (by simpa using hp2) hq.1 hq.2).symm
   ·exact (ZAe hp1 hj hq.1 hq.2).symm
  have g1:=b6 tm σ (rdI vj) far (fun h1 _=>absurd hn0 h1)
  refine ⟨_,_,g1,?_⟩
  rw [f2 _ (rdJ vi),ZeD vi vj (fun d hd he=>d2 d he hd)]
inductive Zdf (O:Z7) (bf:Nat->Bool) (ops:List AOp) (L:Nat) (cs:List Cls):List Nat->Tms->Za->Tms->Za->Prop
 | nil {tm:Tms} {σ:Za}:Zdf O bf ops L cs [] tm σ tm σ
 | cons {i:Nat} {l:List Nat} {v:AVal} {tm tm1 tm2:Tms} {σ σ1 σ2:Za}:Z0 O bf (ops.getD i default) (L+sitesOf (ops.take i)) tm σ=some (v,tm1,σ1,cs.getD i {})->(∀ x,v≠.pan x)->Zdf O bf ops L cs l tm1 σ1 tm2 σ2->Zdf O bf ops L cs (i::l) tm σ tm2 σ2
theorem Zle (ops:List AOp) {k:Nat} (h:k < ops.length):sitesOf (ops.take (k+1))=sitesOf (ops.take k)+nsite (ops[k]).ins:=by
 rw [List.take_succ_eq_append_getElem h]
 simp only [sitesOf,List.map_append,List.sum_append,Xw,List.map_nil,List.sum_cons,List.sum_nil,Wm]
theorem Zy4 {ops:List AOp} {L:Nat}:∀ (m k:Nat) {cs cs':List Cls} {tm:Tms} {σ:Za} {tm':Tms} {σ':Za},k+m=ops.length->Z8 O bf (ops.drop k) (L+sitesOf (ops.take k)) tm σ=some (tm',σ',cs',none)->(∀ j,cs'.getD j {}=cs.getD (k+j) {})->Zdf O bf ops L cs (XT k m) tm σ tm' σ'
 | 0,k,cs,cs',tm,σ,tm',σ',hk,h,hcs=>by
  rw [WW (by omega)] at h
  simp only [Z8,Xa,Xb] at h
  obtain ⟨rfl,rfl,rfl,_⟩:=h
  exact Zdf.nil
 | m+1,k,cs,cs',tm,σ,tm',σ',hk,h,hcs=>by
  have hlt:k < ops.length:=by omega
  rw [W9 hlt] at h
  simp only [Z8] at h
  split at h
  ·cases h
  ·simp only [Xa,Xb] at h
   obtain ⟨_,_,_,h⟩:=h
   cases h
  rename_i v tm1 σ1 c hnp h1
  split at h
  ·cases h
  rename_i tm2 σ2 cs2 p h2
  simp only [Xa,Xb] at h
  obtain ⟨rfl,rfl,rfl,rfl⟩:=h
  rw [XaX]
  have hc0:=hcs 0
  simp only [XA,Wm] at hc0
  refine Zdf.cons (v:=v) (tm1:=tm1) (σ1:=σ1) ?_ (fun x e=>?_) (Zy4 m (k+1) (by omega) (cs':=cs2) ?_ (fun j=>?_))
  ·rw [<-hc0]
   simpa [Xn,hlt] using h1
  ·exact hnp x e
  ·rw [Zle ops hlt,<-W2];exact h2
  ·have:=hcs (j+1)
   simp only [XD] at this
   rw [this]
   congr 1;omega
theorem ZrJ {ops:List AOp} {L:Nat} {cs:List Cls} {i:Nat} {l2:List Nat}:∀ {l1:List Nat} {tm:Tms} {σ:Za} {tm':Tms} {σ':Za},(∀ j ∈ l1,(ops.getD j default).apartT (ops.getD i default)=true/\Zc8 (ops.getD j default) (ops.getD i default) (cs.getD j {}) (cs.getD i {}) (L+sitesOf (ops.take j))=true/\(nsite (ops.getD j default).ins≠0->nsite (ops.getD i default).ins≠0->L+sitesOf (ops.take j)≠L+sitesOf (ops.take i))/\L+sitesOf (ops.take j)+nsite (ops.getD j default).ins<=L+sitesOf (ops.take i)) ->
  Zdf O bf ops L cs (l1++i::l2) tm σ tm' σ'->∃ v tm1 σ1,Z0 O bf (ops.getD i default) (L+sitesOf (ops.take i)) tm σ=some (v,tm1,σ1,cs.getD i {})/\(∀ x,v≠.pan x)/\Zdf O bf ops L cs (l1++l2) tm1 σ1 tm' σ'
 | [],tm,σ,tm',σ',_,h=>by
  cases h with
  | cons h1 hn h2=>exact ⟨_,_,_,h1,hn,h2⟩
 | j::l1,tm,σ,tm',σ',hall,h=>by
  cases h with
  | cons h1 hn h2 =>
   obtain ⟨v3,tm3,σ3,h3,hn3,h4⟩:=ZrJ (l1:=l1) (fun k hk=>hall k (by simp [hk])) h2
   obtain ⟨p1,p2,p3,p4⟩:=hall j (by simp)
   obtain ⟨tm4,σ4,h5,h6⟩:=ZvE h1 h3 p1 p2 p3 p4
   exact ⟨v3,tm4,σ4,h5,hn3,Zdf.cons h6 hn h4⟩
theorem Zxp {ops:List AOp} {L:Nat} {x:AVal}:∀ (m k:Nat) {cs cs':List Cls} {tm:Tms} {σ:Za} {tm':Tms} {σ':Za},k+m=ops.length->Z8 O bf (ops.drop k) (L+sitesOf (ops.take k)) tm σ=some (tm',σ',cs',some x)->(∀ j,cs'.getD j {}=cs.getD (k+j) {}) ->
  ∃ n tmJ σJ tmX,n < m/\cs'.length=n+1/\Zdf O bf ops L cs (XT k n) tm σ tmJ σJ/\Z0 O bf (ops.getD (k+n) default) (L+sitesOf (ops.take (k+n))) tmJ σJ=some (.pan x,tmX,σ',cs.getD (k+n) {})
 | 0,k,cs,cs',tm,σ,tm',σ',hk,h,hcs=>by
  rw [WW (by omega)] at h
  simp [Z8] at h
 | m+1,k,cs,cs',tm,σ,tm',σ',hk,h,hcs=>by
  have hlt:k < ops.length:=by omega
  rw [W9 hlt] at h
  simp only [Z8] at h
  have hc0:=hcs 0
  have hg:ops.getD k default=ops[k]:=by simp [Xn,hlt]
  split at h
  ·cases h
  ·rename_i y tm1 σ1 c h1
   simp only [Xa,Xb] at h
   obtain ⟨rfl,rfl,rfl,rfl⟩:=h
   simp only [XA,Wm] at hc0
   refine ⟨0,tm,σ,tm1,by omega,rfl,Zdf.nil,?_⟩
   rw [Wm,<-hc0,hg]
   exact h1
  rename_i v tm1 σ1 c hnp h1
  split at h
  ·cases h
  rename_i tm2 σ2 cs2 p h2
  simp only [Xa,Xb] at h
  obtain ⟨rfl,rfl,rfl,rfl⟩:=h
  simp only [XA,Wm] at hc0
  have hnext:Z8 O bf (ops.drop (k+1)) (L+sitesOf (ops.take (k+1))) tm1 σ1=some (tm2,σ2,cs2,some x):=by
   rw [Zle ops hlt,<-W2]
   exact h2
  obtain ⟨n,tmJ,σJ,tmX,g1,g2,g3,g4⟩:=Zxp m (k+1) (cs:=cs) (by omega) hnext (fun j=>by
   have:=hcs (j+1)
   simp only [XD] at this
   rw [this];congr 1;omega)
  refine ⟨n+1,tmJ,σJ,tmX,by omega,by simp [g2],?_,?_⟩
  ·rw [XaX]
   refine Zdf.cons (v:=v) (tm1:=tm1) (σ1:=σ1) ?_ (fun x e=>hnp x e) g3
   rw [<-hc0,hg]
   exact h1
  ·rw [show k+(n+1)=k+1+n by omega]
   exact g4
theorem Zz6 {o:AOp} {v:AVal} {c:Cls} {tm tm1:Tms} {σ σ1:Za} {sq:Nat} (hq:o.ins.touches=false\/Zai o.ins=true) (h:Z0 O bf o sq tm σ=some (v,tm1,σ1,c)):σ1=σ:=by
 unfold Z0 at h
 split at h
 ·cases h
 ·simp only [Xa,Xb] at h;exact h.2.2.1.symm
 ·split at h
  ·split at h
   ·rename_i he
    simp only [Xa,Xb] at h
    rw [<-h.2.2.1]
    rcases hq with hq | hq
    ·exact ZFx hq he
    ·cases hi:o.ins with
     | ld k a =>
      rw [hi] at he
      simp only [execI] at he
      unfold ldA at he
      repeat' split at he
      all_goals first | (simp only [Xa,Xb] at he;exact he.2.1.symm) | cases he
     | _=>rw [hi] at hq;simp [Zai] at hq
   ·cases h
  ·cases h
theorem ZyQ {ops:List AOp} {L:Nat} {cs:List Cls} {i:Nat} {x:AVal} {tmX:Tms} {σX:Za}:∀ {l1:List Nat} {tm:Tms} {σ:Za} {tm':Tms} {σ':Za},(∀ j ∈ l1,((ops.getD j default).ins.touches=false\/Zai (ops.getD j default).ins=true)/\(ops.getD j default).apartT (ops.getD i default)=true/\Zc8 (ops.getD j default) (ops.getD i default) (cs.getD j {}) (cs.getD i {}) (L+sitesOf (ops.take j))=true/\(nsite (ops.getD j default).ins≠0->nsite (ops.getD i default).ins≠0->L+sitesOf (ops.take j)≠L+sitesOf (ops.take i))/\L+sitesOf (ops.take j)+nsite (ops.getD j default).ins<=L+sitesOf (ops.take i)) ->
  Zdf O bf ops L cs l1 tm σ tm' σ'->Z0 O bf (ops.getD i default) (L+sitesOf (ops.take i)) tm' σ'=some (.pan x,tmX,σX,cs.getD i {})->∃ tm1,Z0 O bf (ops.getD i default) (L+sitesOf (ops.take i)) tm σ=some (.pan x,tm1,σX,cs.getD i {})
 | [],tm,σ,tm',σ',_,h,hp=>by
  cases h
  exact ⟨_,hp⟩
 | j::l1,tm,σ,tm',σ',hall,h,hp=>by
  cases h with
  | cons h1 hn h2 =>
   obtain ⟨tm3,h3⟩:=ZyQ (l1:=l1) (fun k hk=>hall k (by simp [hk])) h2 hp
   obtain ⟨hq,p1,p2,p3,p4⟩:=hall j (by simp)
   obtain ⟨tm4,σ4,h5,h6⟩:=ZvE h1 h3 p1 p2 p3 p4
   have:=Zz6 hq h6
   subst this
   exact ⟨tm4,h5⟩
end
end
section
open Go.RowKit
section
variable {P:Program} {O:Z7} {bf:Nat->Bool} {an:Ann} {base:Nat->Prop} {w0:World} {I0:Imm}
structure Door where
 D:List Deferred
 K:List Nat
 X:Nat->Value
def Door.ok (dr:Door) (a:Act):Prop:=a.defers=dr.D/\∀ j ∈ dr.K,a.tmps.getD j undef=dr.X j
def Zbr:Door:=⟨[],[],fun _=>undef⟩
theorem ZeR {a:Act}:Zbr.ok a↔a.defers=[]:=by simp [Door.ok,Zbr]
def StR (dr:Door) (nt:Nat) (base:Nat->Prop) (w0:World) (I0 I:Imm) (β:Bmap) (tm:Tms) (σ:Za) (a:Act) (w:World):Prop :=
 ∃ I' β',I.le I'/\β.le β'/\TR I' β' tm a.tmps/\(dr.ok a/\nt<=a.tmps.size)/\Rel base w0 I0 I' β' σ w
variable {dr:Door}
theorem StR.trans {nt:Nat} {I I1:Imm} {β β1:Bmap} {tm:Tms} {σ:Za} {a:Act} {w:World} (hI:I.le I1) (hβ:β.le β1) (h:StR dr nt base w0 I0 I1 β1 tm σ a w):StR dr nt base w0 I0 I β tm σ a w:=by
 obtain ⟨I',β',h1,h2,h3⟩:=h
 exact ⟨I',β',hI.trans h1,hβ.trans h2,h3⟩
theorem Post.trans {I I1:Imm} {β β1:Bmap} {x:AVal} {σ:Za} {u:Value} {w:World} (hI:I.le I1) (hβ:β.le β1) (h:Post base w0 I0 I1 β1 x σ u w):Post base w0 I0 I β x σ u w:=by
 obtain ⟨I',β',h1,h2,h3⟩:=h
 exact ⟨I',β',hI.trans h1,hβ.trans h2,h3⟩
theorem ZzC {I:Imm} {β:Bmap} {tm:Tms} {a:Act} {v:AVal} {u:Value} (T:TR I β tm a.tmps) (hv:VR I β v u) {d:Option Nat} (hd:∀ n,d=some n->n < a.tmps.size):TR I β (tput tm d v) (a.put d u).tmps:=by
 cases d with
 | none=>exact T
 | some d=>exact T.put hv (hd d rfl)
theorem Zjr (a:Act) (d:Option Nat) (u:Value):(a.put d u).defers=a.defers:=by cases d <;> rfl
theorem Zky {a:Act} {d:Option Nat} {u:Value} (h:dr.ok a) (hd:∀ n,d=some n->n ∉ dr.K):dr.ok (a.put d u):=by
 refine ⟨(Zjr a d u).trans h.1,fun j hj=>?_⟩
 rw [<-h.2 j hj]
 cases d with
 | none=>rfl
 | some n =>
  have hne:n≠j:=by rintro rfl;exact hd n rfl hj
  simp only [Act.put,WY]
  rw [Wv hne]
theorem Zec (a:Act) (d:Option Nat) (u:Value):(a.put d u).tmps.size=a.tmps.size:=by cases d <;> simp [Act.put]
theorem ZwP {I:Imm} {β:Bmap} {tm:Tms} {a:Act} (T:TR I β tm a.tmps) {ops:Array Oper} {o:Oper} {g:Option (Nat×Bool)} (hg:ZiY ops o.guard=some g) {b:Bool} (h:Zbq g tm=some b):Region.wanted o (yielded ops a.tmps)=b:=by
 unfold ZiY at hg
 unfold Region.wanted
 split at hg
 ·rename_i e
  injection hg with hg;subst hg
  simp only [Zbq,Xa] at h
  subst h
  rw [e]
 ·rename_i j want e
  split at hg
  ·rename_i o' ho'
   split at hg
   ·rename_i d hd
    injection hg with hg;subst hg
    rw [e]
    show (yielded ops a.tmps j == some want)=b
    have hy:yielded ops a.tmps j=match a.tmps[d]? with | some (.bool b)=>some b | _=>none:=by
     simp only [yielded,ho',Option.bind_some,hd]
     rfl
    rw [hy]
    have hx:=T d
    rw [WY] at hx
    simp only [Zbq] at h
    split at h
    ·rename_i b' hb'
     rw [hb'] at hx
     simp only [VR] at hx
     have : a.tmps[d]?=some (.bool b'):=by
      cases hq:a.tmps[d]? with
      | none=>rw [hq] at hx;simp [undef] at hx
      | some q=>rw [hq] at hx;simp at hx;subst hx;rfl
     rw [this]
     simp only [Xa] at h
     subst h
     cases b' <;> cases want <;> rfl
    ·rename_i hb'
     rw [hb'] at hx
     simp only [VR,VRs] at hx
     obtain ⟨us,hus,hnil⟩:=hx
     injection h with h;subst h
     cases hq:a.tmps[d]? with
     | none=>rfl
     | some q =>
      rw [hq] at hus;simp at hus;subst hus
      rfl
    ·cases h
   ·cases hg
  ·cases hg
theorem ZrU {ops:Array Oper} {o:Oper} {ao:AOp} (hc:Zf9 P an ops o=some ao):∃ g i,ZiY ops o.guard=some g/\(∃ own,Z9 P an own o.op=some i)/\(∀ n,o.dst=some n->n < an.nt/\n ∉ an.keep)/\ao=⟨o.dst,i,g,(o.after.toList.filter (Region.binds .any)).map (·.on)⟩:=by
 unfold Zf9 at hc
 split at hc
 ·rename_i g i hg hi
  split at hc
  ·rename_i hd
   injection hc with hc
   refine ⟨g,i,hg,⟨_,hi⟩,fun n hn=>?_,hc.symm⟩
   rw [hn] at hd
   simp only [Zx3,Xt,decide_eq_true_eq,WH,List.contains_eq_mem,decide_eq_false_iff_not] at hd
   exact hd
  ·cases hc
 ·cases hc
theorem Zhj (hO:ZaF P O) (hkp:∀ n ∈ dr.K,n ∈ an.keep) {ops:Array Oper} {o:Oper} {ao:AOp} (hc:Zf9 P an ops o=some ao) {I:Imm} {β:Bmap} {tm tm':Tms} {σ σ':Za} {a:Act} {w:World} (T:TR I β tm a.tmps) (hd:dr.ok a/\an.nt<=a.tmps.size) (R:Rel base w0 I0 I β σ w) (hb:KLt base w0)
  {sq:Nat} {v:AVal} {c:Cls} (h:Z0 O bf ao sq tm σ=some (v,tm',σ',c)) {K:Act->World->Prop} {Q:Exit->Act->World->Prop} (hK:(∀ x,v≠.pan x)->∀ a' w',StR dr an.nt base w0 I0 I β tm' σ' a' w'->K a' w')
  (hQ:∀ x,v=.pan x->∀ u w',Post base w0 I0 I β x σ' u w'->Q (.panic [{ v:=u,recovered:=false }]) a w') :
  if Region.wanted o (yielded ops a.tmps) then o.wp P a w K Q\/(o.asks P a w/\LetsOut Q) else K (a.put o.dst undef) w:=by
 obtain ⟨g,i,hg,⟨own,hi⟩,hdst,rfl⟩:=ZrU hc
 have hdst':∀ n,o.dst=some n->n < a.tmps.size:=fun n hn=>Nat.lt_of_lt_of_le (hdst n hn).1 hd.2
 have hdk:∀ n,o.dst=some n->n ∉ dr.K:=fun n hn hm=>(hdst n hn).2 (hkp n hm)
 unfold Z0 at h
 split at h
 ·cases h
 ·rename_i hw
  simp only at hw
  rw [ZwP T hg hw]
  simp only [Xa,Xb] at h
  obtain ⟨rfl,rfl,rfl,rfl⟩:=h
  simp only [Xu,if_false]
  exact hK (by simp) _ _ ⟨I,β,Imm.le.refl I,Bmap.le.refl β,ZzC T (Zji I β) hdst',⟨Zky hd.1 hdk,by rw [Zec];exact hd.2⟩,R⟩
 ·rename_i hw
  simp only at hw
  rw [ZwP T hg hw]
  simp only [if_true]
  split at h
  ·rename_i hf
   split at h
   ·rename_i v' σ1 c' he
    simp only [Xa,Xb] at h
    obtain ⟨rfl,rfl,rfl,rfl⟩:=h
    have hs:nsite i≠0->σ[sq]?=some .free:=by
     intro hn
     simp only [WQ,beq_iff_eq] at hf
     exact ZeT.1 (hf.resolve_left hn)
    rcases ZCk hO hi T R hb hs he with hok | ⟨x,rfl,hpan⟩
    ·refine XH (hok.wp (fun u w' hp=>?_))
     obtain ⟨I',β',h1,h2,h3,h4⟩:=hp
     refine hK ?_ _ _ ⟨I',β',h1,h2,ZzC (T.mono h1 h2) h4 hdst',⟨Zky hd.1 hdk,by rw [Zec];exact hd.2⟩,h3⟩
     rintro x rfl
     simp only [VR] at h4
    ·exact XH (hpan.wp (fun u w' hp=>hQ x rfl u w' hp))
   ·cases h
  ·cases h
theorem Zrm (hO:ZaF P O) (hkp:∀ n ∈ dr.K,n ∈ an.keep) (hb:KLt base w0) {ops:Array Oper} {Q:Exit->Act->World->Prop}:∀ {l:List Oper} {asl:List AOp} {sq:Nat} {I:Imm} {β:Bmap} {tm tm':Tms} {σ σ':Za} {cs:List Cls} {p:Option AVal} {a:Act} {w:World},ZcY P an ops l=some asl->TR I β tm a.tmps->(dr.ok a/\an.nt<=a.tmps.size)->Rel base w0 I0 I β σ w ->
  Z8 O bf asl sq tm σ=some (tm',σ',cs,p)->(p=none->∀ a' w',StR dr an.nt base w0 I0 I β tm' σ' a' w'->Q .normal a' w') ->
  (∀ x,p=some x->∀ a' u w',dr.ok a'->Post base w0 I0 I β x σ' u w'->Q (.panic [{ v:=u,recovered:=false }]) a' w')->wpList P ops Q l a w
 | [],asl,sq,I,β,tm,tm',σ,σ',cs,p,a,w,hc,T,hd,R,h,hQ,_=>by
  simp only [ZcY,Xa] at hc;subst hc
  simp only [Z8,Xa,Xb] at h
  obtain ⟨rfl,rfl,rfl,rfl⟩:=h
  exact wpList_nil (hQ rfl _ _ ⟨I,β,Imm.le.refl I,Bmap.le.refl β,T,hd,R⟩)
 | o::l,asl,sq,I,β,tm,tm',σ,σ',cs,p,a,w,hc,T,hd,R,h,hQ,hP=>by
  simp only [ZcY] at hc
  split at hc
  ·rename_i ao hao
   split at hc
   ·rename_i as' has'
    injection hc with hc;subst hc
    simp only [Z8] at h
    split at h
    ·cases h
    ·rename_i x tm1 σ1 c1 h1
     simp only [Xa,Xb] at h
     obtain ⟨rfl,rfl,rfl,rfl⟩:=h
     have:=Zhj (dr:=dr) (K:=wpList P ops Q l) (Q:=Q) hO hkp hao T hd R hb h1 (fun hn=>absurd rfl (hn x)) (fun x' e u w' hp=>by
      injection e with e;subst e
      exact hP x rfl a u w' hd.1 hp)
     unfold wpList
     exact this
    ·rename_i v tm1 σ1 c1 hnp h1
     split at h
     ·cases h
     rename_i tm2 σ2 cs2 p2 h2
     simp only [Xa,Xb] at h
     obtain ⟨rfl,rfl,rfl,rfl⟩:=h
     have:=Zhj (dr:=dr) (K:=wpList P ops Q l) (Q:=Q) hO hkp hao T hd R hb h1 (fun _ a' w' hs=>by
      obtain ⟨I',β',g1,g2,g3,g4,g5⟩:=hs
      exact Zrm hO hkp hb has' g3 g4 g5 h2 (fun hp a'' w'' hs'=>hQ hp a'' w'' (hs'.trans g1 g2)) (fun x hx a'' u w'' hd' hp=>hP x hx a'' u w'' hd' (hp.trans g1 g2))) (fun x e=>absurd e (fun e=>hnp x e))
     unfold wpList
     exact this
   ·cases hc
  ·cases hc
theorem Zii {ops:Array Oper}:∀ {l:List Oper} {asl:List AOp},ZcY P an ops l=some asl->asl.length=l.length/\∀ (i:Nat) (o:Oper),l[i]?=some o->∃ ao,asl[i]?=some ao/\Zf9 P an ops o=some ao
 | [],asl,h=>by simp only [ZcY,Xa] at h;subst h;exact ⟨rfl,fun i o ho=>by simp at ho⟩
 | o::l,asl,h=>by
  simp only [ZcY] at h
  split at h
  ·rename_i ao hao
   split at h
   ·rename_i as' has'
    injection h with h;subst h
    obtain ⟨h1,h2⟩:=Zii has'
    refine ⟨by simp [h1],fun i o' ho'=>?_⟩
    cases i with
    | zero=>simp only [XN,Xa] at ho';subst ho';exact ⟨ao,rfl,hao⟩
    | succ i=>simp only [List.getElem?_cons_succ] at ho' ⊢;exact h2 i o' ho'
   ·cases h
  ·cases h
theorem Zmv:∀ (ls acc:List (List Nat)),(∀ j p,p ∈ (acc.getD j [])->True)->(ZcG ls acc).take acc.length=acc/\(ZcG ls acc).length=acc.length+ls.length /\
  ∀ j,j < ls.length->∀ p,p ∈ (ZcG ls acc).getD (acc.length+j) []->p ∈ ls.getD j []\/∃ i ∈ ls.getD j [],i < acc.length+j/\p ∈ (ZcG ls acc).getD i []
 | [],acc,_=>by simp [ZcG]
 | l::ls,acc,_=>by
  obtain ⟨h1,h2,h3⟩:=Zmv ls (acc++[l++l.flatMap fun i=>acc.getD i []]) (fun _ _ _=>trivial)
  simp only [ZcG]
  have hlen:(acc++[l++l.flatMap fun i=>acc.getD i []]).length=acc.length+1:=by simp
  rw [hlen] at h1 h2 h3
  have hpre:∀ i,i < acc.length+1->(ZcG ls (acc++[l++l.flatMap fun i=>acc.getD i []])).getD i []=(acc++[l++l.flatMap fun i=>acc.getD i []]).getD i []:=by
   intro i hi
   have:=congrArg (fun q:List (List Nat)=>q.getD i []) h1
   simp only [Xn,List.getElem?_take,hi,if_true] at this ⊢
   exact this
  refine ⟨?_,by rw [h2];simp;omega,?_⟩
  ·have:=congrArg (List.take acc.length) h1
   rw [List.take_take,Nat.min_eq_left (by omega)] at this
   rw [this];simp
  ·intro j hj p hp
   cases j with
   | zero =>
    rw [Wm,hpre _ (by omega)] at hp
    simp only [Xn,Wo (X0 _),Xas,XN,Wr,XG,WB] at hp
    rcases hp with hp | ⟨i,hi,hp⟩
    ·exact XH (by simpa using hp)
    ·refine XO ⟨i,by simpa using hi,?_,?_⟩
     ·by_cases hlt:i < acc.length
      ·omega
      ·rw [XX (by omega)] at hp;simp at hp
     ·have hlt:i < acc.length:=by
       by_cases hlt:i < acc.length
       ·exact hlt
       ·rw [XX (by omega)] at hp;simp at hp
      rw [hpre i (by omega)]
      simp only [Xn,Wf hlt]
      exact hp
   | succ j =>
    have:=h3 j (by simpa using hj) p (by rw [show acc.length+1+j=acc.length+(j+1) by omega];exact hp)
    rcases this with h | ⟨i,h4,h5,h6⟩
    ·exact XH (by simpa using h)
    ·exact XO ⟨i,by simpa using h4,by omega,h6⟩
theorem Zyv (f:Nat->Nat) (p:Nat):∀ (l:List Nat) (m:Nat),(l.foldl (fun m i=>m ||| 2 ^ i ||| f i) m).testBit p=true->m.testBit p=true\/p ∈ l\/∃ i ∈ l,(f i).testBit p=true
 | [],m,h=>XH h
 | i::l,m,h=>by
  rcases Zyv f p l _ h with h | h | ⟨j,h1,h2⟩
  ·simp only [Nat.testBit_or,WQ,Nat.testBit_two_pow,decide_eq_true_eq] at h
   rcases h with (h | h) | h
   ·exact XH h
   ·exact XO (XH (by simp [h]))
   ·exact XO (XO ⟨i,by simp,h⟩)
  ·exact XO (XH (by simp [h]))
  ·exact XO (XO ⟨j,by simp [h1],h2⟩)
theorem Zuw:∀ (ls:List (List Nat)) (accM:List Nat) (accL:List (List Nat)),accM.length=accL.length->(∀ j p,(accM.getD j 0).testBit p=true->p ∈ accL.getD j [])->∀ j p,((Zhx ls accM).getD j 0).testBit p=true->p ∈ (ZcG ls accL).getD j []
 | [],accM,accL,_,h=>h
 | l::ls,accM,accL,hl,h=>by
  simp only [Zhx,ZcG]
  refine Zuw ls _ _ (by simp [hl]) ?_
  intro j p hp
  by_cases hj:j < accM.length
  ·simp only [Xn,Wf hj] at hp
   simp only [Xn,Wf (show j < accL.length by omega)]
   have:=h j p (by simpa [Xn] using hp)
   simpa [Xn] using this
  ·by_cases hj':j=accM.length
   ·subst hj'
    simp only [Xn,Wo (X0 _),Xas,XN,Wr] at hp
    rw [hl]
    simp only [Xn,Wo (X0 _),Xas,XN,Wr,XG,WB]
    rcases Zyv _ p l 0 hp with h0 | h0 | ⟨i,h1,h2⟩
    ·simp at h0
    ·exact XH h0
    ·refine XO ⟨i,h1,?_⟩
     have:=h i p (by simpa [Xn] using h2)
     simpa [Xn] using this
   ·simp only [Xn] at hp
    rw [XX (by simp;omega)] at hp
    simp at hp
theorem Zya {asl:List AOp} {ps:List (Nat×Nat)} (h:Ze7 asl=some ps) :
  (∀ i j,i < j->j < asl.length->i ∉ (ZcG (asl.map (·.after)) []).getD j []->(asl.getD i default).apartT (asl.getD j default)=true/\((asl.getD i default).ins.touches=false\/(asl.getD j default).ins.touches=false\/(i,j) ∈ ps))/\(∀ j,j < asl.length->∀ i ∈ (asl.getD j default).after,i < j):=by
 have hsub:=Zuw (asl.map (·.after)) [] [] rfl (by simp)
 unfold Ze7 at h
 simp only at h
 split at h
 ·rename_i hc
  simp only [Xt,XW,WB,XV,WR,Xat,forall_exists_index,and_imp,WH,decide_eq_true_eq] at hc
  obtain ⟨h1,h2⟩:=hc
  injection h with h
  have hbit:∀ i j,i ∉ (ZcG (asl.map (·.after)) []).getD j []->((Zhx (asl.map (·.after)) []).getD j 0).testBit i=false:=by
   intro i j hn
   cases hb:((Zhx (asl.map (·.after)) []).getD j 0).testBit i with
   | false=>rfl
   | true=>exact absurd (hsub j i hb) hn
  refine ⟨fun i j hij hj hn=>⟨?_,?_⟩,fun j hj i hi=>h2 j hj i hi⟩
  ·exact h1 (i,j) j hj i hij (hbit i j hn) rfl
  ·cases ht1:(asl.getD i default).ins.touches with
   | false=>exact XH rfl
   | true =>
    cases ht2:(asl.getD j default).ins.touches with
    | false=>exact XO (XH rfl)
    | true =>
     refine XO (XO ?_)
     rw [<-h]
     rw [XG]
     refine XH ?_
     simp only [WR,WB,XV,Xat,Xt]
     exact ⟨⟨j,hj,i,⟨hij,by rw [hbit i j hn];rfl⟩,rfl⟩,ht1,ht2⟩
 ·cases h
theorem ZBu {asl:List AOp} {ps:List (Nat×Nat)} (h:Ze7 asl=some ps) {j:Nat} (hm:(j,j) ∈ ps):∀ k,j < k->k < asl.length->j ∈ (ZcG (asl.map (·.after)) []).getD k []:=by
 have hsub:=Zuw (asl.map (·.after)) [] [] rfl (by simp)
 unfold Ze7 at h
 simp only at h
 split at h
 ·injection h with h
  rw [<-h,XG] at hm
  rcases hm with hm | hm
  ·simp only [WR,WB,XV,Xat,Xb] at hm
   obtain ⟨⟨a,_,b,⟨hb,_⟩,e1,e2⟩,_⟩:=hm
   omega
  ·simp only [XV,WR,Xat,Xb,and_self,Xt,XW,WQ,decide_eq_true_eq] at hm
   obtain ⟨a,⟨_,_,ha⟩,rfl⟩:=hm
   intro k hk hkl
   rcases ha k hkl with h1 | h1
   ·omega
   ·exact hsub k a h1
 ·cases h
theorem ZzS {asl:List AOp} {ps:List (Nat×Nat)} (h:Ze7 asl=some ps) {j:Nat} (hm:(j,j) ∈ ps):(asl.getD j default).ins.touches=true:=by
 unfold Ze7 at h
 simp only at h
 split at h
 ·injection h with h
  rw [<-h,XG] at hm
  rcases hm with hm | hm
  ·simp only [WR,WB,XV,Xat,Xb] at hm
   obtain ⟨⟨a,_,b,⟨hb,_⟩,e1,e2⟩,_⟩:=hm
   omega
  ·simp only [XV,WR,Xat,Xb,and_self,Xt] at hm
   obtain ⟨a,⟨_,hc,_⟩,rfl⟩:=hm
   cases hi:(asl.getD a default).ins <;> rw [hi] at hc <;> first | rfl | (simp [Zaf] at hc)
 ·cases h
end
end
section
open Go.RowKit
section
variable {P:Program} {O:Z7} {bf:Nat->Bool} {an:Ann} {base:Nat->Prop} {w0:World} {I0:Imm} {dr:Door}
theorem ZE9 {o:AOp} {tm tm1:Tms} {σ σ1:Za} {sq:Nat} {v:AVal} {c:Cls} (ht:o.ins.touches=false) (h:Z0 O bf o sq tm σ=some (v,tm1,σ1,c)):c={}:=by
 unfold Z0 at h
 split at h
 ·cases h
 ·simp only [Xa,Xb] at h;exact h.2.2.2.symm
 ·split at h
  ·split at h
   ·rename_i he
    simp only [Xa,Xb] at h
    rw [<-h.2.2.2]
    exact (ZDz ht he).1
   ·cases h
  ·cases h
theorem Zio {i:Ins} (h:i.touches=false):nsite i=0:=by cases i <;> simp [Ins.touches] at h <;> rfl
theorem ZgY {asl:List AOp} {L:Nat} {cs:List Cls}:∀ {l:List Nat} {tm tm':Tms} {σ σ':Za},Zdf O bf asl L cs l tm σ tm' σ'->∀ j ∈ l,(asl.getD j default).ins.touches=false->cs.getD j {}={}
 | [],_,_,_,_,_,j,hj,_=>by simp at hj
 | i::l,_,_,_,_,h,j,hj,ht=>by
  cases h with
  | cons h1 _ h2 =>
   rcases XP.1 hj with rfl | hj
   ·exact ZE9 ht h1
   ·exact ZgY h2 j hj ht
theorem Zhe (asl:List AOp):∀ {j i:Nat},j < i->i<=asl.length->sitesOf (asl.take j)+nsite (asl.getD j default).ins<=sitesOf (asl.take i):=by
 intro j i hji hi
 induction i with
 | zero=>omega
 | succ i ih =>
  rw [Zle asl (by omega)]
  by_cases e:j=i
  ·subst e
   simp [Xn,show j < asl.length by omega]
  ·have:=ih (by omega) (by omega);omega
theorem ZDl (hO:ZaF P O) (hkp:∀ n ∈ dr.K,n ∈ an.keep) (hb:KLt base w0) {ops:Array Oper} {asl:List AOp} (hcomp:ZcY P an ops ops.toList=some asl) {ps:List (Nat×Nat)} (hps:Ze7 asl=some ps) {L:Nat} {cs:List Cls} (hchk:ZdT asl L ps cs=true)
  {tmF:Tms} {σF:Za} {Q:Exit->Act->World->Prop} {I:Imm} {β:Bmap} (hQ:∀ a' w',StR dr an.nt base w0 I0 I β tmF σF a' w'->Q .normal a' w') :
  ∀ (fuel:Nat) (rem:List Nat) (listed:Array Bool) (a:Act) (w:World) (tm:Tms) (σ:Za),Zdf O bf asl L cs rem tm σ tmF σF->rem.Pairwise (· < ·)->(∀ j ∈ rem,j < ops.size)->(∀ j,j < ops.size->(listed.getD j true=true↔j ∉ rem))->listed.size=ops.size ->
   (∀ k,k < ops.size->k ∉ rem->∀ p ∈ (ZcG (asl.map (·.after)) []).getD k [],p ∉ rem)->rem.length=fuel->StR dr an.nt base w0 I0 I β tm σ a w->wpAny P .any ops Q fuel listed a w:=by
 obtain ⟨hlen,hget⟩:=Zii hcomp
 obtain ⟨hp1,hp2⟩:=Zya hps
 obtain ⟨_,_,hanc⟩:=Zmv (asl.map (·.after)) [] (fun _ _ _=>trivial)
 simp only [X7] at hlen
 have hafter:∀ j o,ops[j]?=some o->∃ ao,asl.getD j default=ao/\Zf9 P an ops o=some ao/\ao.after=(o.after.toList.filter (Region.binds .any)).map (·.on)/\ao.dst=o.dst:=by
  intro j o ho
  obtain ⟨ao,h1,h2⟩:=hget j o (by simpa using ho)
  refine ⟨ao,by simp [Xn,h1],h2,?_⟩
  obtain ⟨g,i,_,_,_,rfl⟩:=ZrU h2
  exact ⟨rfl,rfl⟩
 intro fuel
 induction fuel with
 | zero =>
  intro rem listed a w tm σ hr hs hlt hl hsz hcl hfl hst
  have : rem=[]:=List.eq_nil_of_length_eq_zero hfl
  subst this
  cases hr
  refine ⟨?_,hQ a w hst⟩
  apply List.eq_nil_iff_forall_not_mem.2
  intro j hj
  rw [mem_ready] at hj
  obtain ⟨h1,o,ho,_⟩:=hj
  have hjl:j < ops.size:=(XQ.1 ho).1
  have:=(hl j hjl).2 (by simp)
  rw [h1] at this;cases this
 | succ fuel ih =>
  intro rem listed a w tm σ hr hs hlt hl hsz hcl hfl hst
  have isRem:∀ j,j < ops.size->listed.getD j true=false->j ∈ rem:=by
   intro j hj h
   by_cases hm:j ∈ rem
   ·exact hm
   ·have:=(hl j hj).2 hm;rw [h] at this;cases this
  have getD_tf:∀ j,j < ops.size->listed.getD j false=listed.getD j true:=by
   intro j hj
   simp [XaS,hsz,hj]
  refine ⟨fun hnil=>?_,fun i hi=>?_⟩
  ·exfalso
   cases rem with
   | nil=>simp at hfl
   | cons r rs =>
    have hrl:r < ops.size:=hlt r (by simp)
    have hro:ops[r]?=some ops[r]:=by simp [hrl]
    obtain ⟨ao,e1,e2,e3,_⟩:=hafter r _ hro
    have : r ∈ Region.ready .any ops listed:=by
     rw [mem_ready]
     refine ⟨?_,ops[r],hro,fun e he hbnd=>?_⟩
     ·cases hq:listed.getD r true with
      | false=>rfl
      | true=>exact absurd (List.mem_cons_self) ((hl r hrl).1 hq)
     ·have hon:e.on ∈ ao.after:=by rw [e3];exact XV.2 ⟨e,WR.2 ⟨by simpa using he,hbnd⟩,rfl⟩
      have hlt':e.on < r:=hp2 r (by omega) e.on (by rw [e1];exact hon)
      rw [getD_tf _ (by omega)]
      refine (hl e.on (by omega)).2 (fun hm=>?_)
      rcases XP.1 hm with h | hm
      ·omega
      ·have:=(Ws.1 hs).1 e.on hm;omega
    rw [hnil] at this;simp at this
  ·rw [mem_ready] at hi
   obtain ⟨hi0,o,ho,hpre⟩:=hi
   have hil:i < ops.size:=(XQ.1 ho).1
   have him:=isRem i hil hi0
   obtain ⟨l1,l2,rfl⟩:=List.append_of_mem him
   obtain ⟨ao,e1,e2,e3,e4⟩:=hafter i o ho
   have hdone:∀ p ∈ (asl.getD i default).after,p < ops.size->p ∉ l1++i::l2:=by
    intro p hp hpl
    rw [e1,e3] at hp
    obtain ⟨e,he,rfl⟩:=XV.1 hp
    obtain ⟨he1,he2⟩:=WR.1 he
    have:=hpre e (by simpa using he1) he2
    rw [getD_tf _ hpl] at this
    exact (hl e.on hpl).1 this
   have hai:(asl.map (·.after)).getD i []=(asl.getD i default).after:=by
    simp [Xn,show i < asl.length by omega]
   have hanci:∀ p ∈ (ZcG (asl.map (·.after)) []).getD i [],p ∉ l1++i::l2:=by
    intro p hp
    have hap:∀ q,q ∈ (asl.map (·.after)).getD i []->q < i:=fun q hq=>hp2 i (by omega) q (by rw [<-hai];exact hq)
    rcases hanc i (by simp;omega) p (by simpa using hp) with h | ⟨q,h1,h2,h3⟩
    ·exact hdone p (by rw [<-hai];exact h) (by have:=hap p h;omega)
    ·have hql:q < ops.size:=by simp at h2;omega
     exact hcl q hql (hdone q (by rw [<-hai];exact h1) hql) p h3
   have hl1:∀ j ∈ l1,j < i:=by
    intro j hj
    have:=WV.1 hs
    exact this.2.2 j hj i (by simp)
   obtain ⟨v1,tm1,σ1,h1,hnp1,h2⟩:=ZrJ (l1:=l1) (i:=i) (fun j hj=>by
    have hji:=hl1 j hj
    have hjn:j ∉ (ZcG (asl.map (·.after)) []).getD i []:=fun hm=>hanci j hm (by simp [hj])
    obtain ⟨p1,p2⟩:=hp1 j i hji (by omega) hjn
    refine ⟨p1,?_,fun hn _=>?_,?_⟩
    ·rcases p2 with p2 | p2 | p2
     ·have:=ZgY hr j (by simp [hj]) p2
      have hem:ZcM (asl.getD j default) (cs.getD j {})=true:=by rw [this];simp only [ZcM,Zio p2];rfl
      simp only [Zc8,hem,Xay]
     ·have:=ZgY hr i (by simp) p2
      have hem:ZcM (asl.getD i default) (cs.getD i {})=true:=by rw [this];simp only [ZcM,Zio p2];rfl
      simp only [Zc8,hem,Xay,Xba]
     ·have:=XW.1 hchk (j,i) p2
      simp only [WQ,beq_iff_eq] at this
      rcases this with h | h
      ·omega
      ·exact h
    ·have:=Zhe asl hji (by omega)
     omega
    ·have:=Zhe asl hji (by omega)
     omega) hr
   unfold wpOp
   rw [ho]
   rw [e1] at h1
   obtain ⟨I',β',g1,g2,g3,g4,g5⟩:=hst
   refine Zhj hO hkp e2 g3 g4 g5 hb h1 (fun _ a' w' hs'=>ih (l1++l2) _ a' w' tm1 σ1 h2 ?_ ?_ ?_ (by simpa using hsz) ?_ ?_ (hs'.trans g1 g2)) (fun x e=>absurd e (hnp1 x))
   ·have:=WV.1 hs
    exact WV.2 ⟨this.1,(Ws.1 this.2.1).2,fun x hx y hy=>this.2.2 x hx y (by simp [hy])⟩
   ·intro j hj
    refine hlt j ?_
    simp only [XG,XP] at hj ⊢
    rcases hj with h | h
    ·exact XH h
    ·exact XO (XO h)
   ·intro j hj
    have hs1:=WV.1 hs
    by_cases hij:i=j
    ·subst hij
     have hn:i ∉ l1++l2:=by
      intro hm
      rcases XG.1 hm with h | h
      ·have:=hl1 i h;omega
      ·have:=(Ws.1 hs1.2.1).1 i h;omega
     simp [XaS,hsz,hil,hn]
    ·rw [getD_set_ne true hij,hl j hj]
     simp only [XG,XP,not_or]
     constructor
     ·rintro ⟨a1,_,a3⟩;exact ⟨a1,a3⟩
     ·rintro ⟨a1,a3⟩;exact ⟨a1,fun e=>hij e.symm,a3⟩
   ·intro k hk hkn p hp hm
    have hsub:p ∈ l1++i::l2:=by
     simp only [XG,XP] at hm ⊢
     rcases hm with h | h
     ·exact XH h
     ·exact XO (XO h)
    by_cases hki:k=i
    ·subst hki;exact hanci p hp hsub
    ·refine hcl k hk (fun hkm=>hkn ?_) p hp hsub
     simp only [XG,XP] at hkm ⊢
     rcases hkm with h | h | h
     ·exact XH h
     ·exact absurd h hki
     ·exact XO h
   ·simp at hfl ⊢;omega
theorem ZCz (hO:ZaF P O) (hkp:∀ n ∈ dr.K,n ∈ an.keep) (hb:KLt base w0) {ops:Array Oper} {asl:List AOp} (hcomp:ZcY P an ops ops.toList=some asl) {ps:List (Nat×Nat)} (hps:Ze7 asl=some ps) {L:Nat} {cs:List Cls} {jp:Nat} (hjl:jp < ops.size) (hmark:(jp,jp) ∈ ps) (hmarkT:(asl.getD jp default).ins.touches=true) (hfree:∀ j i,(j,i) ∈ ps->j < i->i<=jp->Zc8 (asl.getD j default) (asl.getD i default) (cs.getD j {}) (cs.getD i {}) (L+sitesOf (asl.take j))=true) (hquiet:∀ j,(j,jp) ∈ ps->j < jp->Zai (asl.getD j default).ins=true)
  {x:AVal} {σF:Za} {Q:Exit->Act->World->Prop} {I:Imm} {β:Bmap} (hQ:∀ a' u w',dr.ok a'->Post base w0 I0 I β x σF u w'->Q (.panic [{ v:=u,recovered:=false }]) a' w') :
  ∀ (fuel:Nat) (pre post:List Nat) (listed:Array Bool) (a:Act) (w:World) (tm tmJ tmX:Tms) (σ σJ:Za),Zdf O bf asl L cs pre tm σ tmJ σJ->Z0 O bf (asl.getD jp default) (L+sitesOf (asl.take jp)) tmJ σJ=some (.pan x,tmX,σF,cs.getD jp {})->(pre++jp::post).Pairwise (· < ·)->(∀ j ∈ pre++jp::post,j < ops.size)->(∀ j,j < ops.size->(listed.getD j true=true↔j ∉ pre++jp::post))->listed.size=ops.size ->
   (∀ k,k < ops.size->k ∉ pre++jp::post->∀ p ∈ (ZcG (asl.map (·.after)) []).getD k [],p ∉ pre++jp::post)->(pre++jp::post).length=fuel->StR dr an.nt base w0 I0 I β tm σ a w->wpAny P .any ops Q fuel listed a w:=by
 obtain ⟨hlen,hget⟩:=Zii hcomp
 obtain ⟨hp1,hp2⟩:=Zya hps
 have hmk:=ZBu hps hmark
 obtain ⟨_,_,hanc⟩:=Zmv (asl.map (·.after)) [] (fun _ _ _=>trivial)
 simp only [X7] at hlen
 have hafter:∀ j o,ops[j]?=some o->∃ ao,asl.getD j default=ao/\Zf9 P an ops o=some ao/\ao.after=(o.after.toList.filter (Region.binds .any)).map (·.on)/\ao.dst=o.dst:=by
  intro j o ho
  obtain ⟨ao,h1,h2⟩:=hget j o (by simpa using ho)
  refine ⟨ao,by simp [Xn,h1],h2,?_⟩
  obtain ⟨g,i,_,_,_,rfl⟩:=ZrU h2
  exact ⟨rfl,rfl⟩
 intro fuel
 induction fuel with
 | zero =>
  intro pre post listed a w tm tmJ tmX σ σJ hr hj hs hlt hl hsz hcl hfl hst
  simp at hfl
 | succ fuel ih =>
  intro pre post listed a w tm tmJ tmX σ σJ hr hj hs hlt hl hsz hcl hfl hst
  have getD_tf:∀ j,j < ops.size->listed.getD j false=listed.getD j true:=by
   intro j hj
   simp [XaS,hsz,hj]
  have isRem:∀ j,j < ops.size->listed.getD j true=false->j ∈ pre++jp::post:=by
   intro j hj h
   by_cases hm:j ∈ pre++jp::post
   ·exact hm
   ·have:=(hl j hj).2 hm;rw [h] at this;cases this
  refine ⟨fun hnil=>?_,fun i hi=>?_⟩
  ·exfalso
   obtain ⟨r,rs,hrr⟩:∃ r rs,pre++jp::post=r::rs:=by cases pre <;> simp
   rw [hrr] at hs hlt hl
   have hrl:r < ops.size:=hlt r (by simp)
   have hro:ops[r]?=some ops[r]:=by simp [hrl]
   obtain ⟨ao,e1,e2,e3,_⟩:=hafter r _ hro
   have : r ∈ Region.ready .any ops listed:=by
    rw [mem_ready]
    refine ⟨?_,ops[r],hro,fun e he hbnd=>?_⟩
    ·cases hq:listed.getD r true with
     | false=>rfl
     | true=>exact absurd (List.mem_cons_self) ((hl r hrl).1 hq)
    ·have hon:e.on ∈ ao.after:=by rw [e3];exact XV.2 ⟨e,WR.2 ⟨by simpa using he,hbnd⟩,rfl⟩
     have hlt':e.on < r:=hp2 r (by omega) e.on (by rw [e1];exact hon)
     rw [getD_tf _ (by omega)]
     refine (hl e.on (by omega)).2 (fun hm=>?_)
     rcases XP.1 hm with h | hm
     ·omega
     ·have:=(Ws.1 hs).1 e.on hm;omega
   rw [hnil] at this;simp at this
  ·rw [mem_ready] at hi
   obtain ⟨hi0,o,ho,hpre⟩:=hi
   have hil:i < ops.size:=(XQ.1 ho).1
   have him:=isRem i hil hi0
   obtain ⟨ao,e1,e2,e3,e4⟩:=hafter i o ho
   have hdone:∀ p ∈ (asl.getD i default).after,p < ops.size->p ∉ pre++jp::post:=by
    intro p hp hpl
    rw [e1,e3] at hp
    obtain ⟨e,he,rfl⟩:=XV.1 hp
    obtain ⟨he1,he2⟩:=WR.1 he
    have:=hpre e (by simpa using he1) he2
    rw [getD_tf _ hpl] at this
    exact (hl e.on hpl).1 this
   have hai:(asl.map (·.after)).getD i []=(asl.getD i default).after:=by
    simp [Xn,show i < asl.length by omega]
   have hanci:∀ p ∈ (ZcG (asl.map (·.after)) []).getD i [],p ∉ pre++jp::post:=by
    intro p hp
    have hap:∀ q,q ∈ (asl.map (·.after)).getD i []->q < i:=fun q hq=>hp2 i (by omega) q (by rw [<-hai];exact hq)
    rcases hanc i (by simp;omega) p (by simpa using hp) with h | ⟨q,h1,h2,h3⟩
    ·exact hdone p (by rw [<-hai];exact h) (by have:=hap p h;omega)
    ·have hql:q < ops.size:=by simp at h2;omega
     exact hcl q hql (hdone q (by rw [<-hai];exact h1) hql) p h3
   have hss:=WV.1 hs
   rw [XG,XP] at him
   rcases him with him | hij | him
   ·obtain ⟨l1,l2,rfl⟩:=List.append_of_mem him
    have hl1:∀ j ∈ l1,j < i:=by
     intro j hj
     exact (WV.1 hss.1).2.2 j hj i (by simp)
    have hijp:i < jp:=hss.2.2 i (by simp) jp (by simp)
    obtain ⟨v1,tm1,σ1,h1,hnp1,h2⟩:=ZrJ (l1:=l1) (i:=i) (fun j hj'=>by
     have hji:=hl1 j hj'
     have hjn:j ∉ (ZcG (asl.map (·.after)) []).getD i []:=fun hm=>hanci j hm (by simp [hj'])
     obtain ⟨p1,p2⟩:=hp1 j i hji (by omega) hjn
     refine ⟨p1,?_,fun hn _=>?_,?_⟩
     ·rcases p2 with p2 | p2 | p2
      ·have:=ZgY hr j (by simp [hj']) p2
       have hem:ZcM (asl.getD j default) (cs.getD j {})=true:=by rw [this];simp only [ZcM,Zio p2];rfl
       simp only [Zc8,hem,Xay]
      ·have:=ZgY hr i (by simp) p2
       have hem:ZcM (asl.getD i default) (cs.getD i {})=true:=by rw [this];simp only [ZcM,Zio p2];rfl
       simp only [Zc8,hem,Xay,Xba]
      ·exact hfree j i p2 hji (by omega)
     ·have:=Zhe asl hji (by omega)
      omega
     ·have:=Zhe asl hji (by omega)
      omega) hr
    have eA:(l1++i::l2)++jp::post=l1++i::(l2++jp::post):=by simp
    have eB:(l1++l2)++jp::post=l1++(l2++jp::post):=by simp
    rw [eA] at hs hlt hl hcl hanci hfl
    unfold wpOp
    rw [ho]
    rw [e1] at h1
    obtain ⟨I',β',g1,g2,g3,g4,g5⟩:=hst
    refine Zhj hO hkp e2 g3 g4 g5 hb h1 (fun _ a' w' hs'=>ih (l1++l2) post _ a' w' tm1 tmJ tmX σ1 σJ h2 hj ?_ ?_ ?_ (by simpa using hsz) ?_ ?_ (hs'.trans g1 g2)) (fun x e=>absurd e (hnp1 x))
    ·rw [eB]
     have:=WV.1 hs
     exact WV.2 ⟨this.1,(Ws.1 this.2.1).2,fun x hx y hy=>this.2.2 x hx y (by simp only [XP];exact XO hy)⟩
    ·intro j hj
     rw [eB] at hj
     refine hlt j ?_
     simp only [XG,XP] at hj ⊢
     rcases hj with h | h | h | h
     ·exact XH h
     ·exact XO (XO (XH h))
     ·exact XO (XO (XO (XH h)))
     ·exact XO (XO (XO (XO h)))
    ·intro j hj
     rw [eB]
     generalize l2++jp::post=L2 at *
     have hs1:=WV.1 hs
     by_cases hij:i=j
     ·subst hij
      have hn:i ∉ l1++L2:=by
       intro hm
       rcases XG.1 hm with h | h
       ·have:=hl1 i h;omega
       ·have:=(Ws.1 hs1.2.1).1 i h;omega
      simp [XaS,hsz,hil,hn]
     ·rw [getD_set_ne true hij,hl j hj]
      simp only [XG,XP,not_or]
      constructor
      ·rintro ⟨a1,_,a3⟩;exact ⟨a1,a3⟩
      ·rintro ⟨a1,a3⟩;exact ⟨a1,fun e=>hij e.symm,a3⟩
    ·intro k hk hkn p hp hm
     rw [eB] at hkn hm
     generalize l2++jp::post=L2 at *
     have hsub:p ∈ l1++i::L2:=by
      simp only [XG,XP] at hm ⊢
      rcases hm with h | h
      ·exact XH h
      ·exact XO (XO h)
     by_cases hki:k=i
     ·subst hki;exact hanci p hp hsub
     ·refine hcl k hk (fun hkm=>hkn ?_) p hp hsub
      simp only [XG,XP] at hkm ⊢
      rcases hkm with h | h | h
      ·exact XH h
      ·exact absurd h hki
      ·exact XO h
    ·rw [eB];simp at hfl ⊢;omega
   ·subst hij
    have hl1:∀ j ∈ pre,j < i:=fun j hj=>hss.2.2 j hj i (by simp)
    obtain ⟨tm1,h1⟩:=ZyQ (l1:=pre) (i:=i) (fun j hj'=>by
     have hji:=hl1 j hj'
     have hjn:j ∉ (ZcG (asl.map (·.after)) []).getD i []:=fun hm=>hanci j hm (by simp [hj'])
     obtain ⟨p1,p2⟩:=hp1 j i hji (by omega) hjn
     have hts:(asl.getD i default).ins.touches=false->False:=fun h=>by
      have:=hmarkT
      rw [h] at this;cases this
     refine ⟨?_,p1,?_,fun hn _=>?_,?_⟩
     ·rcases p2 with p2 | p2 | p2
      ·exact XH p2
      ·exact (hts p2).elim
      ·exact XO (hquiet j p2 hji)
     ·rcases p2 with p2 | p2 | p2
      ·have:=ZgY hr j hj' p2
       have hem:ZcM (asl.getD j default) (cs.getD j {})=true:=by rw [this];simp only [ZcM,Zio p2];rfl
       simp only [Zc8,hem,Xay]
      ·exact (hts p2).elim
      ·exact hfree j i p2 hji (X0 _)
     ·have:=Zhe asl hji (by omega)
      omega
     ·have:=Zhe asl hji (by omega)
      omega) hr hj
    unfold wpOp
    rw [ho]
    rw [e1] at h1
    obtain ⟨I',β',g1,g2,g3,g4,g5⟩:=hst
    refine Zhj hO hkp e2 g3 g4 g5 hb h1 (fun hn=>absurd rfl (hn x)) (fun x' e u w' hp=>?_)
    injection e with e
    subst e
    exact hQ a u w' g4.1 (hp.trans g1 g2)
   ·exfalso
    have hlt2:jp < i:=(Ws.1 hss.2.1).1 i him
    exact hanci jp (hmk i hlt2 (by omega)) (by simp)
theorem Rel.reserve {I:Imm} {β:Bmap} {σ:Za} {w:World} (R:Rel base w0 I0 I β σ w) (n:Nat):Rel base w0 I0 I β (σ++Xr n .free) w:=by
 have look:∀ t x,(σ++Xr n Zq.free)[t]?=some x->σ[t]?=some x\/(σ.length<=t/\x=.free):=by
  intro t x h
  by_cases ht:t < σ.length
  ·rw [Wf ht] at h;exact XH h
  ·rw [Wo (by omega)] at h
   refine XO ⟨by omega,?_⟩
   have:=Xx h
   exact List.eq_of_mem_replicate this
 refine ⟨R.below,R.old,R.imm,?_,?_,?_,?_,?_,?_,R.glob,?_⟩
 ·intro t x h
  rcases look t x h with h | ⟨_,rfl⟩
  ·exact R.blk t x h
  ·trivial
 ·intro t x b h hb
  rcases look t x h with h | ⟨_,rfl⟩
  ·exact R.own t x b h hb
  ·cases hb
 ·intro t x t' x' b h h' hb hb'
  rcases look t x h with h | ⟨_,rfl⟩
  ·rcases look t' x' h' with h' | ⟨_,rfl⟩
   ·exact R.apart t x t' x' b h h' hb hb'
   ·cases hb'
  ·cases hb
 ·intro t g h
  exact R.fresh t g (by simp at h;omega)
 ·intro t g h
  rcases look t _ h with h | ⟨h,_⟩
  ·exact R.free t g h
  ·exact R.fresh t g h
 ·intro t x g h hg
  rcases look t _ h with h | ⟨h,_⟩
  ·exact R.gen t x g h hg
  ·exact R.fresh t g h
 ·intro t x b h hb
  rcases look t x h with h | ⟨_,rfl⟩
  ·exact R.ro t x b h hb
  ·cases hb
theorem StR.keep {I:Imm} {β:Bmap} {tm:Tms} {σ:Za} {a:Act} {w:World} (h:StR dr an.nt base w0 I0 I β tm σ a w) (live:List Nat):StR dr an.nt base w0 I0 I β (keepL live tm) σ a w:=by
 obtain ⟨I',β',h1,h2,h3,h4⟩:=h
 exact ⟨I',β',h1,h2,h3.keep live,h4⟩
def ZBj (dr:Door) (an:Ann) (base:Nat->Prop) (w0:World) (I0 I:Imm) (β:Bmap) (e:Za2) (tm:Tms) (σ:Za) (Q:Exit->Act->World->Prop):Prop:=match e with
 | .normal=>∀ a w,StR dr an.nt base w0 I0 I β tm σ a w->Q .normal a w
 | .exit id=>∀ a w,StR dr an.nt base w0 I0 I β tm σ a w->Q (.exit id) a w
 | .ret=>∀ a w,StR dr an.nt base w0 I0 I β tm σ a w->Q .ret a w
 | .panic x=>∀ a u w,dr.ok a->Post base w0 I0 I β x σ u w->Q (.panic [{ v:=u,recovered:=false }]) a w
theorem Zjd (hO:ZaF P O) (hkp:∀ n ∈ dr.K,n ∈ an.keep) (hm:P.follows .mixedOrders=true) (hb:KLt base w0) {id:Nat} {ops:Array Oper} {draw:Bool} {asl:List AOp} {chk:Option (List (Nat×Nat))} {live:List Nat} (hc:ZaR P an (.region id ops draw)=.region asl chk live) {I:Imm} {β:Bmap} {tm tm':Tms} {σ σ':Za} {a:Act} {w:World} {e:Za2}
  (hst:StR dr an.nt base w0 I0 I β tm σ a w) (h:Zcr O bf asl chk live tm σ=some (e,tm',σ')) {Q:Exit->Act->World->Prop} (hQ:ZBj dr an base w0 I0 I β e tm' σ' Q):(Code.region id ops draw).wp P Q a w:=by
 obtain ⟨I1,β1,g1,g2,g3,g4,g5⟩:=hst
 simp only [ZaR] at hc
 split at hc
 ·rename_i l hl
  unfold Zcr at h
  split at hc
  ·rename_i hd
   subst hd
   split at hc
   ·rename_i ps hps
    simp only [Zv.region.injEq] at hc
    obtain ⟨rfl,rfl,rfl⟩:=hc
    cases hrun:Z8 O bf l σ.length tm (σ++Xr (sitesOf l) .free) with
    | none=>rw [hrun] at h;simp only [Zdu] at h;cases h
    | some q =>
     obtain ⟨tm1,σ1,cs,p⟩:=q
     rw [hrun] at h
     cases p with
     | some x =>
      simp only [Zdu] at h
      split at h
      ·rename_i hpan
       simp only [Xa,Xb] at h
       obtain ⟨rfl,rfl,rfl⟩:=h
       have hlen:=(Zii hl).1
       simp only [X7] at hlen
       obtain ⟨n,tmJ,σJ,tmX,q1,q2,q3,q4⟩:=Zxp (O:=O) (bf:=bf) (ops:=l) (L:=σ.length) l.length 0 (cs:=cs) (cs':=cs) (by omega) (by simpa [sitesOf] using hrun) (fun j=>by simp)
       rw [XK] at q4
       unfold Zav at hpan
       rw [q2] at hpan
       simp only [Xt,List.any_eq_true,XW,WQ,beq_iff_eq,decide_eq_true_eq,Nat.add_sub_cancel] at hpan
       obtain ⟨⟨pm,hpm,hm1,hm2⟩,hall⟩:=hpan
       have hmk:(n,n) ∈ ps:=by
        obtain ⟨a1,a2⟩:=pm
        simp only at hm1 hm2
        subst hm1 hm2
        exact hpm
       have hT:(l.getD n default).ins.touches=true:=ZzS hps hmk
       refine wp_region_any hm (ZCz hO hkp hb hl hps (jp:=n) (by omega) hmk hT (fun j i hji h1 h2=>?_) (fun j hj h1=>?_) (I:=I) (β:=β) (x:=x) (fun a' u w' hd' hp=>hQ a' u w' hd' hp) ops.size (XT 0 n) (XT (n+1) (l.length - n - 1)) _ a _ tm tmJ tmX _ σJ q3 q4 ?_ ?_ ?_ (by simp) ?_ (by simp;omega) ⟨I1,β1,g1,g2,g3,g4,(g5.reserve _).same rfl rfl rfl rfl⟩)
       ·rcases hall (j,i) hji with (h | h) | ⟨h,_⟩
        ·simp only at h;omega
        ·simp only at h;omega
        ·exact h
       ·rcases hall (j,n) hj with (h | h) | ⟨_,h⟩
        ·simp only at h;omega
        ·simp only at h;omega
        ·rcases h with h | h
         ·simp only at h;omega
         ·exact h
       ·have e:XT 0 n++n::XT (n+1) (l.length - n - 1)=XT 0 l.length:=by
         rw [<-XaX]
         have:=List.range'_append_1 (s:=0) (m:=n) (n:=l.length - n - 1+1)
         rw [XK] at this
         rw [this]
         congr 1
         omega
        rw [e];exact List.pairwise_lt_range'
       ·intro j hj;simp at hj;omega
       ·intro j hj
        simp [XaS,hj]
        omega
       ·intro k hk hkn
        exact absurd (by simp;omega) hkn
      ·cases h
     | none =>
      simp only [Zdu] at h
      split at h
      ·rename_i hchk
       simp only [Xa,Xb] at h
       obtain ⟨rfl,rfl,rfl⟩:=h
       have hlen:=(Zii hl).1
       simp only [X7] at hlen
       have hr:=Zy4 (O:=O) (bf:=bf) (ops:=l) (L:=σ.length) l.length 0 (cs:=cs) (cs':=cs) (by omega) (by simpa [sitesOf] using hrun) (fun j=>by simp)
       refine wp_region_any hm (ZDl hO hkp hb hl hps hchk (I:=I) (β:=β) (fun a' w' hs=>hQ a' w' (hs.keep _)) ops.size (XT 0 l.length) _ a _ tm _ hr ?_ ?_ ?_ (by simp) ?_ (by simp [hlen]) ⟨I1,β1,g1,g2,g3,g4,(g5.reserve _).same rfl rfl rfl rfl⟩)
       ·exact List.pairwise_lt_range'
       ·intro j hj;simp at hj;omega
       ·intro j hj
        simp [XaS,hj,hlen]
       ·intro k hk hkn
        exact absurd (by simp;omega) hkn
      ·cases h
   ·cases hc
  ·rename_i hd
   simp only [Zv.region.injEq] at hc
   obtain ⟨rfl,rfl,rfl⟩:=hc
   have hdf:draw=false:=by cases draw <;> simp_all
   subst hdf
   cases hrun:Z8 O bf l σ.length tm (σ++Xr (sitesOf l) .free) with
   | none=>rw [hrun] at h;simp only [Zdu] at h;cases h
   | some q =>
    obtain ⟨tm1,σ1,cs,p⟩:=q
    rw [hrun] at h
    cases p with
    | none =>
     simp only [Zdu,Xa,Xb] at h
     obtain ⟨rfl,rfl,rfl⟩:=h
     exact wp_region_list (Zrm hO hkp hb hl g3 g4 (g5.reserve _) hrun (fun _ a' w' hs=>hQ a' w' ((hs.trans g1 g2).keep _)) (fun x hx=>by cases hx))
    | some x =>
     simp only [Zdu,Xa,Xb] at h
     obtain ⟨rfl,rfl,rfl⟩:=h
     exact wp_region_list (Zrm hO hkp hb hl g3 g4 (g5.reserve _) hrun (fun hx=>by cases hx) (fun x' hx a' u w' hd' hp=>by
      injection hx with hx;subst hx
      exact hQ a' u w' hd' (hp.trans g1 g2)))
 ·cases hc
end
end
section
open Go.RowKit
section
variable {P:Program} {O:Z7} {bf:Nat->Bool} {an:Ann} {base:Nat->Prop} {w0:World} {I0:Imm} {dr:Door}
def StF (dr:Door) (m nt:Nat) (base:Nat->Prop) (w0:World) (I0 I:Imm) (β:Bmap) (tm:Tms) (σ:Za) (a:Act) (w:World):Prop :=
 ∃ I' β',I.le I'/\KeptE m β β'/\TR I' β' tm a.tmps/\(dr.ok a/\nt<=a.tmps.size)/\Rel base w0 I0 I' β' σ w
def ZED (dr:Door) (m:Nat) (an:Ann) (base:Nat->Prop) (w0:World) (I0 I:Imm) (β:Bmap) (e:Za2) (tm:Tms) (σ:Za) (Q:Exit->Act->World->Prop):Prop:=match e with
 | .normal=>∀ a w,StF dr m an.nt base w0 I0 I β tm σ a w->Q .normal a w
 | .exit id=>∀ a w,StF dr m an.nt base w0 I0 I β tm σ a w->Q (.exit id) a w
 | .ret=>∀ a w,StF dr m an.nt base w0 I0 I β tm σ a w->Q .ret a w
 | .panic x=>∀ a u w,dr.ok a->Zbo m base w0 I0 I β (.pan x) σ u w->Q (.panic [{ v:=u,recovered:=false }]) a w
theorem StF.cond {m:Nat} {I:Imm} {β:Bmap} {tm:Tms} {σ:Za} {a:Act} {w:World} (h:StF dr m an.nt base w0 I0 I β tm σ a w) {c:Operand} {y:Opd} (hc:Zar c=some y) {b:Bool} (hv:y.ev tm=.bool b):a.eval c=.bool b:=by
 obtain ⟨I',β',_,_,T,_,_⟩:=h
 have:=Zah T hc
 rw [hv] at this
 simpa only [VR] using this
theorem ZiW (hO:ZaF P O) (hkp:∀ n ∈ dr.K,n ∈ an.keep) (hm:P.follows .mixedOrders=true) (hb:KLt base w0) (m n:Nat):∀ {c:Code} {ac:Zv},ZaR P an c=ac->∀ {I:Imm} {β:Bmap} {tm tm':Tms} {σ σ':Za} {a:Act} {w:World} {e:Za2},StF dr m an.nt base w0 I0 I β tm σ a w->Zab O bf m n ac tm σ=some (e,tm',σ') ->
  ∀ {Q:Exit->Act->World->Prop},ZED dr m an base w0 I0 I β e tm' σ' Q->c.wp P Q a w:=by
 intro c
 induction c with
 | skip =>
  intro ac hc I β tm tm' σ σ' a w e hst h Q hQ
  simp only [ZaR] at hc;subst hc
  simp only [Zab,Xa,Xb] at h
  obtain ⟨rfl,rfl,rfl⟩:=h
  exact wp_skip (hQ a w hst)
 | region id ops draw =>
  intro ac hc I β tm tm' σ σ' a w e hst h Q hQ
  obtain ⟨asl,chk,live,rfl⟩:∃ asl chk live,ac=.region asl chk live:=by
   simp only [ZaR] at hc
   split at hc
   ·split at hc
    ·split at hc
     ·exact ⟨_,_,_,hc.symm⟩
     ·subst hc;simp only [Zab] at h;cases h
    ·exact ⟨_,_,_,hc.symm⟩
   ·subst hc;simp only [Zab] at h;cases h
  simp only [Zab] at h
  obtain ⟨I1,β1,g1,g2,g3,g4,g5⟩:=hst
  have up:∀ {tm:Tms} {σ:Za} {a':Act} {w':World},StR dr an.nt base w0 I0 I1 β1 tm σ a' w'->StF dr m an.nt base w0 I0 I β tm σ a' w':=by
   rintro tm σ a' w' ⟨I2,β2,k1,k2,k3⟩
   exact ⟨I2,β2,g1.trans k1,g2.trans (KeptE.of_le k2),k3⟩
  refine Zjd hO hkp hm hb hc (⟨I1,β1,Imm.le.refl I1,Bmap.le.refl β1,g3,g4,g5⟩:StR dr an.nt base w0 I0 I1 β1 tm σ a w) h ?_
  cases e with
  | normal=>exact fun a' w' hs=>hQ a' w' (up hs)
  | exit id=>exact fun a' w' hs=>hQ a' w' (up hs)
  | ret=>exact fun a' w' hs=>hQ a' w' (up hs)
  | panic x =>
   rintro a' u w' hd ⟨I2,β2,k1,k2,k3,k4⟩
   exact hQ a' u w' hd ⟨I2,β2,g1.trans k1,g2.trans (KeptE.of_le k2),k3,k4⟩
 | seq x y ihx ihy =>
  intro ac hc I β tm tm' σ σ' a w e hst h Q hQ
  simp only [ZaR] at hc
  subst hc
  simp only [Zab] at h
  refine wp_seq ?_
  split at h
  ·rename_i tm1 σ1 h1
   exact ihx rfl hst h1 (fun a' w' hs=>ihy rfl hs h hQ)
  ·rename_i hne
   refine ihx rfl hst h ?_
   cases e with
   | normal=>exact absurd h (hne _ _)
   | exit id=>exact hQ
   | ret=>exact hQ
   | panic x=>exact hQ
 | cond c x y ihx ihy =>
  intro ac hc I β tm tm' σ σ' a w e hst h Q hQ
  simp only [ZaR] at hc
  split at hc
  ·rename_i c' hcc
   subst hc
   simp only [Zab] at h
   split at h
   ·rename_i hv
    exact wp_cond_true (hst.cond hcc hv) (ihx rfl hst h hQ)
   ·rename_i hv
    exact wp_cond_false (hst.cond hcc hv) (ihy rfl hst h hQ)
   ·cases h
  ·subst hc;simp only [Zab] at h;cases h
 | block id x ih =>
  intro ac hc I β tm tm' σ σ' a w e hst h Q hQ
  simp only [ZaR] at hc
  subst hc
  have hx:ZaR P an x=ZaR P an x:=rfl
  simp only [Zab] at h
  refine wp_block ?_
  split at h
  ·rename_i i tm1 σ1 h1
   refine ih hx hst h1 ?_
   intro a' w' hs
   simp only [Exit.inBlock]
   split at h
   ·rename_i hid
    simp only [Xa,Xb] at h
    obtain ⟨rfl,rfl,rfl⟩:=h
    rw [if_pos hid]
    exact hQ a' w' hs
   ·rename_i hid
    simp only [Xa,Xb] at h
    obtain ⟨rfl,rfl,rfl⟩:=h
    rw [if_neg hid]
    exact hQ a' w' hs
  ·rename_i hne
   refine ih hx hst h ?_
   cases e with
   | normal=>exact hQ
   | exit id=>exact absurd h (hne _ _ _)
   | ret=>exact hQ
   | panic x=>exact hQ
 | loop x ih =>
  intro ac hc I β tm tm' σ σ' a w e hst h Q hQ
  simp only [ZaR] at hc
  subst hc
  have hx:ZaR P an x=ZaR P an x:=rfl
  simp only [Zab] at h
  refine wp_loop_rounds n ?_
  have key:∀ k {tm:Tms} {σ:Za} {a:Act} {w:World},StF dr m an.nt base w0 I0 I β tm σ a w->ZdP m (an.ll (Ze4 x)) (Zab O bf m n (ZaR P an x)) k tm σ=some (e,tm',σ')->Code.rounds P x Q k a w:=by
   intro k
   induction k with
   | zero=>intro tm σ a w _ h;simp only [ZdP] at h;cases h
   | succ k ihk =>
    intro tm σ a w hst h
    rw [rounds_succ]
    simp only [ZdP] at h
    obtain ⟨I1,β1,k1,k2,k3,k4,k5⟩:=hst
    obtain ⟨β2,q1,q2,q3⟩:=ZnN k5 (k3.keep (an.ll (Ze4 x))) m
    have hst0:StF dr m an.nt base w0 I0 I β (gcT m (keepL (an.ll (Ze4 x)) tm) σ).1 (gcT m (keepL (an.ll (Ze4 x)) tm) σ).2 a w:=⟨I1,β2,k1,k2.trans q1,q3,k4,q2⟩
    split at h
    ·rename_i tm1 σ1 h1
     exact ih hx hst0 h1 (fun a' w' hs=>ihk hs h)
    ·rename_i hne
     refine ih hx hst0 h ?_
     cases e with
     | normal=>exact absurd h (hne _ _)
     | exit id=>exact hQ
     | ret=>exact hQ
     | panic x=>exact hQ
  exact key n hst h
 | exit id =>
  intro ac hc I β tm tm' σ σ' a w e hst h Q hQ
  simp only [ZaR] at hc;subst hc
  simp only [Zab,Xa,Xb] at h
  obtain ⟨rfl,rfl,rfl⟩:=h
  exact wp_exit (hQ a w hst)
 | ret =>
  intro ac hc I β tm tm' σ σ' a w e hst h Q hQ
  simp only [ZaR] at hc;subst hc
  simp only [Zab,Xa,Xb] at h
  obtain ⟨rfl,rfl,rfl⟩:=h
  exact wp_ret (hQ a w hst)
 | rangeFunc f ps x y=>intro ac hc I β tm tm' σ σ' a w e hst h;simp only [ZaR] at hc;subst hc;simp only [Zab] at h;cases h
 | scope x ih =>
  intro ac hc I β tm tm' σ σ' a w e hst h Q hQ
  simp only [ZaR] at hc
  refine wp_scope_straight (ih hc hst h ?_)
  cases e with
  | normal=>exact hQ
  | exit id=>exact hQ
  | ret=>exact hQ
  | panic x=>exact hQ
 | label l =>
  intro ac hc I β tm tm' σ σ' a w e hst h Q hQ
  simp only [ZaR] at hc;subst hc
  simp only [Zab,Xa,Xb] at h
  obtain ⟨rfl,rfl,rfl⟩:=h
  exact wp_label (hQ a w hst)
 | goto l=>intro ac hc I β tm tm' σ σ' a w e hst h;simp only [ZaR] at hc;subst hc;simp only [Zab] at h;cases h
 | refuse why=>intro ac hc I β tm tm' σ σ' a w e hst h;simp only [ZaR] at hc;subst hc;simp only [Zab] at h;cases h
theorem ZBK {I:Imm} {β:Bmap} {σ σ':Za} {k:Option Nat} {a x:AVal} {c:Cls} {v:Value} (ha:VR I β a v) (h:ldA σ k a=some (x,σ',c)):∃ ad,v=.pointer (some ad):=by
 unfold ldA at h
 split at h
 ·simp only [VR] at ha;obtain ⟨b,k,c,_,rfl⟩:=ha;exact ⟨_,rfl⟩
 ·simp only [VR] at ha;obtain ⟨b,k,c,_,rfl⟩:=ha;exact ⟨_,rfl⟩
 ·simp only [VR] at ha;obtain ⟨b,off,rfl,_⟩:=ha;exact ⟨_,rfl⟩
 ·cases h
def Zh1 (tmps:Array Value):ResultVar->Sem Value
 | .tmp t=>pure (tmps.getD t undef)
 | .cell a t=>do loadVar t (<-asAddr (tmps.getD a undef))
theorem ZsD {I:Imm} {β:Bmap} {tm:Tms} {σ:Za} {w:World} {tmps:Array Value} (T:TR I β tm tmps) (R:Rel base w0 I0 I β σ w):∀ {rs:List ResultVar} {asl:List Zda} {xs:List AVal},ZeB P rs=some asl->resAll tm σ asl=some xs ->
  ∃ vs:List Value,(rs.mapM (Zh1 tmps)).run P w=.ok vs w/\VRs I β xs vs
 | [],asl,xs,hc,h=>by
  simp only [ZeB,Xa] at hc;subst hc
  simp only [resAll,Xa] at h;subst h
  exact ⟨[],by simp,by simp only [VRs]⟩
 | r::rs,asl,xs,hc,h=>by
  have getD_eq:∀ t,VR I β (tget tm t) (tmps.getD t undef):=T
  cases r with
  | tmp t =>
   simp only [ZeB,XB] at hc
   obtain ⟨as',has,rfl⟩:=hc
   simp only [resAll,resOne] at h
   split at h
   ·rename_i ys hys
    injection h with h;subst h
    obtain ⟨vs,h1,h2⟩:=ZsD T R has hys
    exact ⟨tmps.getD t undef::vs,by simp only [Xbp,Zh1,Sem.run_bind,Sem.run_pure,Result.andThen_ok,h1],by simp only [VRs];exact ⟨_,_,rfl,getD_eq t,h2⟩⟩
   ·cases h
  | cell a t =>
   simp only [ZeB] at hc
   split at hc
   ·rename_i k as' hk has
    injection hc with hc;subst hc
    simp only [resAll,resOne] at h
    split at h
    ·rename_i v hv
     split at h
     ·rename_i ys hys
      injection h with h;subst h
      obtain ⟨vs,h1,h2⟩:=ZsD T R has hys
      split at hv
      ·rename_i v' σ1 c1 hld
       injection hv with hv;subst hv
       obtain ⟨u,hu1,hu2,_⟩:=Zxe hk R (getD_eq a) hld
       obtain ⟨ad,had⟩:=ZBK (getD_eq a) hld
       have hlv:(loadVar t ad).run P w=.ok u w:=by
        rw [had] at hu1
        simpa [Instr.loadAt,Instr.sureAddr] using hu1
       refine ⟨u::vs,?_,by simp only [VRs];exact ⟨_,_,rfl,hu2,h2⟩⟩
       simp only [Xbp,Zh1,had,asAddr,Sem.run_bind,Sem.run_pure,Result.andThen_ok,hlv,h1]
      ·cases hv
     ·cases h
    ·cases h
   ·cases hc
theorem Zwn {I:Imm} {β:Bmap} {tm:Tms} {σ:Za} {w:World} {tmps:Array Value} (T:TR I β tm tmps) (R:Rel base w0 I0 I β σ w) {fn:Func} {asl:List Zda} {x:AVal} (hc:ZeB P fn.results.toList=some asl) (h:resA tm σ asl=some x):∃ v,(results fn tmps).run P w=.ok v w/\VR I β x v:=by
 unfold resA at h
 have run:∀ {xs:List AVal},resAll tm σ asl=some xs->∃ vs:List Value,(results fn tmps).run P w=.ok (if h:vs.toArray.size=1 then vs.toArray[0] else .tuple vs.toArray) w/\VRs I β xs vs:=by
  intro xs hx
  obtain ⟨vs,h1,h2⟩:=ZsD T R hc hx
  refine ⟨vs,?_,h2⟩
  have hm:(fn.results.mapM (Zh1 tmps)).run P w=.ok vs.toArray w:=by
   rw [Array.mapM_eq_mapM_toList,Sem.run_map,h1];rfl
  have he:results fn tmps=(do let vs <-fn.results.mapM (Zh1 tmps);pure (if h:vs.size=1 then vs[0] else .tuple vs)):=by
   unfold results
   congr 1
  rw [he,Sem.run_bind,hm]
  rfl
 split at h
 ·rename_i v hv
  injection h with h;subst h
  obtain ⟨vs,h1,h2⟩:=run hv
  simp only [VRs] at h2
  obtain ⟨u,us,rfl,h3,rfl⟩:=h2
  exact ⟨u,by rw [h1];simp,h3⟩
 ·rename_i vs' hv hne
  injection h with h;subst h
  obtain ⟨vs,h1,h2⟩:=run hne
  have hl:=Zan h2
  refine ⟨.tuple vs.toArray,?_,by simp only [VR];exact ⟨_,rfl,by simpa using h2⟩⟩
  rw [h1,dif_neg]
  intro hs
  simp only [List.size_toArray] at hs
  match vs',hl with
  | [v],_=>exact hv v rfl
  | [],hl=>simp at hl;omega
  | _::_::_,hl=>simp at hl;omega
 ·cases h
theorem Zzf:∀ (args:List AVal) (i:Nat) (acc:Tms) (n:Nat),tget (enterA i args acc) n=if i<=n/\n < i+args.length then args.getD (n - i) .top else tget acc n
 | [],i,acc,n=>by simp only [enterA,Xy];rw [if_neg (by omega)]
 | x::xs,i,acc,n=>by
  simp only [enterA,List.length_cons]
  rw [Zzf xs (i+1) _ n]
  by_cases h:i+1<=n/\n < i+1+xs.length
  ·rw [if_pos h,if_pos (by omega),show n - i=(n - (i+1))+1 by omega,XD]
  ·rw [if_neg h]
   simp only [tget]
   by_cases h1:i=n
   ·subst h1
    rw [if_pos rfl,if_pos (by omega),Xas,XA]
   ·rw [if_neg h1,if_neg (by omega)]
theorem Zvi {I:Imm} {β:Bmap} {args:List AVal} {vs:Array Value} (h:VRs I β args vs.toList) (n:Nat):TR I β (enterA 0 args []) (vs++XaO n undef):=by
 intro j
 rw [Zzf]
 have hl:=Zan h
 simp only [X7] at hl
 split
 ·rename_i hj
  have hjl:j < args.length:=by omega
  obtain ⟨v,h1,h2⟩:=ZcF h (Xz hjl)
  have e1:args.getD (j - 0) .top=args[j]:=by simp [Xn,hjl]
  have e2:(vs++XaO n undef).getD j undef=v:=by
   rw [WY,Array.getElem?_append_left (by omega)]
   have : vs[j]?=some v:=by simpa using h1
   rw [this];rfl
  rw [e1,e2];exact h2
 ·simp only [tget,VR]
def ZgP (P:Program) (prim:Zbz):Prop:=∀ f g,prim f=some g->∀ args σ r σ',g args σ=some (r,σ') ->
 (∃ fn,P.funcs[f]?=some fn/\fn.body.isSome=true/\(fn.name == "runtime.NumGoroutine")=false) /\
 ∀ base w0 I0 I β w (vs:Array Value),KLt base w0->Rel base w0 I0 I β σ w->VRs I β args vs.toList ->
  Calls P f vs w (fun e w'=>∃ u,Ends r e u/\Zbo σ.length base w0 I0 I β r σ' u w')
theorem ZsK (hm:P.follows .mixedOrders=true) {prim:Zbz} (hP:ZgP P prim) (ann:Nat->Ann) (bf:Nat->Bool):∀ n,ZaF P (ZaB (Zic P ann) prim bf n)
 | 0=>by intro f args σ r σ' h;simp only [ZaB] at h;cases h
 | n+1=>by
  have ih:=ZsK hm hP ann bf n
  intro f args σ r σ' h
  simp only [ZaB] at h
  split at h
  ·rename_i g hg
   exact hP f g hg args σ r σ' h
  split at h
  ·cases h
  rename_i fn hfn
  unfold Zic at hfn
  split at hfn
  ·rename_i F hF
   split at hfn
   ·rename_i body hbody
    split at hfn
    ·cases hfn
    ·rename_i hname
     split at hfn
     ·rename_i rs hrs
      injection hfn with hfn;subst hfn
      refine ⟨⟨F,hF,by rw [hbody];rfl,by simpa using hname⟩,?_⟩
      intro base w0 I0 I β w vs hb R hargs
      refine calls_of_wp hF hbody ?_
      have T:=Zvi hargs (F.ntmps - vs.size)
      have hst:StF Zbr σ.length F.ntmps base w0 I0 I β (enterA 0 args []) σ { tmps:=vs++XaO (F.ntmps - vs.size) undef,defers:=[] } w:=⟨I,β,Imm.le.refl I,KeptE.refl _ β,T,⟨ZeR.2 rfl,by simp;omega⟩,R⟩
      cases hx:Zab (ZaB (Zic P ann) prim bf n) bf σ.length n (ZaR P { ann f with nt:=F.ntmps } body) (enterA 0 args []) σ with
      | none=>rw [hx] at h;simp only [Za4] at h;cases h
      | some q =>
       obtain ⟨e,tm',σ1⟩:=q
       rw [hx] at h
       have fin:(match resA tm' σ1 rs with | some r=>Zay σ.length σ1 r | none=>none)=some (r,σ')->∀ a' w',StF Zbr σ.length F.ntmps base w0 I0 I β tm' σ1 a' w'->a'.defers=[]/\∃ v,(results F a'.tmps).run P w'=.ok v w'/\∃ u,Ends r (.returned v) u/\Zbo σ.length base w0 I0 I β r σ' u w':=by
        intro hr a' w' ⟨I1,β1,g1,g2,g3,g4,g5⟩
        split at hr
        ·rename_i x hx1
         obtain ⟨v,h1,h2⟩:=Zwn g3 g5 hrs hx1
         have hnp:∀ y,x≠.pan y:=by rintro y rfl;simp only [VR] at h2
         obtain ⟨q1,q2⟩:=Zhp (⟨I1,β1,g1,g2,g5,by rw [ZfR hnp];exact h2⟩:Zbo σ.length base w0 I0 I β x σ1 v w') hr
         refine ⟨ZeR.1 g4.1,v,h1,v,q2 _ ?_,q1⟩
         cases x <;> first | rfl | exact absurd rfl (hnp _)
        ·cases hr
       refine ZiW (dr:=Zbr) (an:={ ann f with nt:=F.ntmps }) ih (fun n hn=>by simp [Zbr] at hn) hm hb σ.length n rfl hst hx ?_
       cases e with
       | normal=>simp only [Za4] at h;exact fun a' w' hs=>fin h a' w' hs
       | ret=>simp only [Za4] at h;exact fun a' w' hs=>fin h a' w' hs
       | exit id=>simp only [Za4] at h;cases h
       | panic x =>
        simp only [Za4] at h
        intro a' u w' hd hp
        obtain ⟨q1,q2⟩:=Zhp hp h
        exact ⟨ZeR.1 hd,u,q2 _ rfl,q1⟩
     ·cases hfn
   ·cases hfn
  ·cases hfn
end
end
section
open Go.RowKit
def OLe (O O':Z7):Prop:=∀ f a σ r,O f a σ=some r->O' f a σ=some r
section
variable {O O':Z7} {bf:Nat->Bool}
theorem ZFL {view:Bool} {m:Nat} {x y:Option (AVal×Za)} (h:∀ r,x=some r->y=some r) {r:AVal×Za} (hr:ZaC view m x=some r):ZaC view m y=some r:=by
 cases x with
 | none=>cases view <;> simp [ZaC,ZcO] at hr
 | some q=>rw [h q rfl];exact hr
theorem ZCK {σ σf:Za} {ids ts:List Nat} {sq own:Nat} {x y:Option (AVal×Za)} (h:∀ r,x=some r->y=some r) {r:AVal×Za×Cls} (hr:ZaP σ σf ids ts sq own x=some r):ZaP σ σf ids ts sq own y=some r:=by
 cases x with
 | none=>simp only [ZaP] at hr;cases hr
 | some q=>rw [h q rfl];exact hr
theorem ZiS (hO:OLe O O') {σ:Za} {sq f own:Nat} {view:Bool} {args:List AVal} {r:AVal×Za×Cls} (h:Z4 O bf σ sq f own view args=some r):Z4 O' bf σ sq f own view args=some r:=by
 unfold Z4 Zck at h ⊢
 split at h
 ·cases h
 ·rename_i vs ts hv
  split at h
  ·rename_i hc
   simp only [hc,if_true]
   exact ZCK (fun q hq=>ZFL (fun q hq=>hO _ _ _ _ hq) hq) h
  ·cases h
theorem ZA6 (hO:OLe O O') {tm:Tms} {σ:Za} {sq:Nat} {ins:Ins} {r:AVal×Za×Cls} (h:execI O bf tm σ sq ins=some r):execI O' bf tm σ sq ins=some r:=by
 cases ins
 case call f own view args =>
  simp only [execI] at h ⊢
  exact ZiS hO h
 case callv x args =>
  simp only [execI] at h ⊢
  split at h
  ·exact ZiS hO h
  ·cases h
 all_goals exact h
theorem Znp (hO:OLe O O') {o:AOp} {tm:Tms} {σ:Za} {sq:Nat} {r:AVal×Tms×Za×Cls} (h:Z0 O bf o sq tm σ=some r):Z0 O' bf o sq tm σ=some r:=by
 unfold Z0 at h ⊢
 split at h
 ·cases h
 ·exact h
 ·split at h
  ·rename_i hf
   rw [if_pos hf]
   split at h
   ·rename_i he;rw [ZA6 hO he];exact h
   ·cases h
  ·cases h
theorem ZkO (hO:OLe O O'):∀ {ops:List AOp} {s:Nat} {tm:Tms} {σ:Za} {r:Tms×Za×List Cls×Option AVal},Z8 O bf ops s tm σ=some r->Z8 O' bf ops s tm σ=some r
 | [],_,_,_,_,h=>h
 | o::ops,s,tm,σ,r,h=>by
  simp only [Z8] at h ⊢
  split at h
  ·cases h
  ·rename_i h1
   rw [Znp hO h1]
   exact h
  ·rename_i v tm1 σ1 c hnp h1
   rw [Znp hO h1]
   simp only
   split at h
   ·cases h
   rename_i h2
   rw [ZkO hO h2]
   exact h
theorem ZxT (hO:OLe O O') {ops:List AOp} {chk:Option (List (Nat×Nat))} {live:List Nat} {tm:Tms} {σ:Za} {r:Za2×Tms×Za} (h:Zcr O bf ops chk live tm σ=some r):Zcr O' bf ops chk live tm σ=some r:=by
 unfold Zcr at h ⊢
 cases hx:Z8 O bf ops σ.length tm (σ++Xr (sitesOf ops) .free) with
 | none=>rw [hx] at h;simp only [Zdu] at h;cases h
 | some q=>rw [ZkO hO hx];rw [hx] at h;exact h
theorem Zjq {m0:Nat} {live:List Nat} {f f':Tms->Za->Option (Za2×Tms×Za)} (hf:∀ tm σ r,f tm σ=some r->f' tm σ=some r):∀ {n n':Nat} {tm:Tms} {σ:Za} {r:Za2×Tms×Za},n<=n'->ZdP m0 live f n tm σ=some r->ZdP m0 live f' n' tm σ=some r
 | 0,_,_,_,_,_,h=>by simp only [ZdP] at h;cases h
 | n+1,0,_,_,_,hn,_=>by omega
 | n+1,n'+1,tm,σ,r,hn,h=>by
  simp only [ZdP] at h ⊢
  split at h
  ·rename_i h1
   rw [hf _ _ _ h1]
   exact Zjq hf (by omega) h
  ·rename_i hne
   rw [hf _ _ _ h]
   split
   ·rename_i e;injection e with e;subst e;exact absurd h (hne _ _)
   ·rfl
theorem Zd0 (hO:OLe O O') {m0:Nat}:∀ {c:Zv} {n n':Nat} {tm:Tms} {σ:Za} {r:Za2×Tms×Za},n<=n'->Zab O bf m0 n c tm σ=some r->Zab O' bf m0 n' c tm σ=some r:=by
 intro c
 induction c with
 | skip=>intro n n' tm σ r _ h;exact h
 | exit id=>intro n n' tm σ r _ h;exact h
 | ret=>intro n n' tm σ r _ h;exact h
 | stuck=>intro n n' tm σ r _ h;exact h
 | region ops chk live =>
  intro n n' tm σ r _ h
  simp only [Zab] at h ⊢
  exact ZxT hO h
 | seq a b iha ihb =>
  intro n n' tm σ r hn h
  simp only [Zab] at h ⊢
  split at h
  ·rename_i h1;rw [iha hn h1];exact ihb hn h
  ·rename_i hne
   rw [iha hn h]
   split
   ·rename_i e;injection e with e;subst e;exact absurd h (hne _ _)
   ·rfl
 | cond c a b iha ihb =>
  intro n n' tm σ r hn h
  simp only [Zab] at h ⊢
  split at h
  ·exact iha hn h
  ·exact ihb hn h
  ·cases h
 | block id c ih =>
  intro n n' tm σ r hn h
  simp only [Zab] at h ⊢
  split at h
  ·rename_i h1;rw [ih hn h1];exact h
  ·rename_i hne
   rw [ih hn h]
   split
   ·rename_i e;injection e with e;subst e;exact absurd h (hne _ _ _)
   ·rfl
 | loop live c ih =>
  intro n n' tm σ r hn h
  simp only [Zab] at h ⊢
  exact Zjq (fun tm σ r h=>ih hn h) hn h
theorem ZiF {m0:Nat} {fn:Zam} {x y:Option (Za2×Tms×Za)} (h:∀ r,x=some r->y=some r) {r:AVal×Za} (hr:Za4 m0 fn x=some r):Za4 m0 fn y=some r:=by
 cases x with
 | none=>simp only [Za4] at hr;cases hr
 | some q=>rw [h q rfl];exact hr
theorem Zxd (fs:Nat->Option Zam) (prim:Zbz):∀ n,OLe (ZaB fs prim bf n) (ZaB fs prim bf (n+1))
 | 0=>by intro f a σ r h;simp only [ZaB] at h;cases h
 | n+1=>by
  intro f a σ r h
  rw [ZaB] at h ⊢
  split at h
  ·rename_i g hg;exact h
  ·rename_i hg
   split at h
   ·cases h
   ·rename_i fn hfn
    exact ZiF (fun q hq=>Zd0 (Zxd fs prim n) (by omega) hq) h
theorem Zib (fs : Nat -> Option Zam) (prim : Zbz) {n m : Nat} (h : n <= m) : OLe (ZaB fs prim bf n) (ZaB fs prim bf m) := by
  induction m with
  | zero => obtain rfl : n = 0 := by omega
            exact fun _ _ _ _ h => h
  | succ m ih =>
    by_cases e : n = m + 1
    . subst e; exact fun _ _ _ _ h => h
    . exact fun f a σ r hr => Zxd fs prim m f a σ r (ih (by omega) f a σ r hr)
end
section
variable (fs:Nat->Option Zam) (prim:Zbz) (bf:Nat->Bool)
open Classical in
noncomputable def EV:Z7:=fun f args σ=>if h:∃ r,∃ n,ZaB fs prim bf n f args σ=some r then some h.choose else none
open Classical in
noncomputable def evC (m:Nat) (c:Zv) (tm:Tms) (σ:Za):Option (Za2×Tms×Za):=if h:∃ r,∃ n,Zab (ZaB fs prim bf n) bf m n c tm σ=some r then some h.choose else none
variable {fs prim bf} {m0:Nat}
theorem ZdA {f:Nat} {args:List AVal} {σ:Za} {r:AVal×Za}:EV fs prim bf f args σ=some r↔∃ n,ZaB fs prim bf n f args σ=some r:=by
 unfold EV
 constructor
 ·intro h
  split at h
  ·rename_i hx
   injection h with h
   rw [<-h]
   exact hx.choose_spec
  ·cases h
 ·rintro ⟨n,hn⟩
  have hx:∃ r,∃ n,ZaB fs prim bf n f args σ=some r:=⟨r,n,hn⟩
  rw [dif_pos hx]
  obtain ⟨m,hm⟩:=hx.choose_spec
  have h1:=Zib (bf:=bf) fs prim (Xav n m) _ _ _ _ hn
  have h2:=Zib (bf:=bf) fs prim (Xao n m) _ _ _ _ hm
  rw [h1] at h2
  injection h2 with h2
  rw [<-h2]
theorem Zbm {c:Zv} {tm:Tms} {σ:Za} {r:Za2×Tms×Za}:evC fs prim bf m0 c tm σ=some r↔∃ n,Zab (ZaB fs prim bf n) bf m0 n c tm σ=some r:=by
 unfold evC
 constructor
 ·intro h
  split at h
  ·rename_i hx
   injection h with h
   rw [<-h]
   exact hx.choose_spec
  ·cases h
 ·rintro ⟨n,hn⟩
  have hx:∃ r,∃ n,Zab (ZaB fs prim bf n) bf m0 n c tm σ=some r:=⟨r,n,hn⟩
  rw [dif_pos hx]
  obtain ⟨m,hm⟩:=hx.choose_spec
  have h1:=Zd0 (Zib (bf:=bf) fs prim (Xav n m)) (Xav n m) hn
  have h2:=Zd0 (Zib (bf:=bf) fs prim (Xao n m)) (Xao n m) hm
  rw [h1] at h2
  injection h2 with h2
  rw [<-h2]
theorem ZeZ {α:Type} {x y:Option α} (h:∀ r,x=some r↔y=some r):x=y:=by
 cases x with
 | none =>
  cases y with
  | none=>rfl
  | some q=>exact absurd ((h q).2 rfl) (by simp)
 | some q=>exact ((h q).1 rfl).symm
theorem Zz2 (n:Nat):OLe (ZaB fs prim bf n) (EV fs prim bf):=fun _ _ _ _ h=>ZdA.2 ⟨n,h⟩
theorem up {n m:Nat} (h:n<=m):OLe (ZaB fs prim bf n) (ZaB fs prim bf m):=Zib fs prim h
theorem Zi7 {f:Nat} {g:List AVal->Za->Option (AVal×Za)} (hp:prim f=some g) (args:List AVal) (σ:Za):EV fs prim bf f args σ=g args σ:=by
 apply ZeZ
 intro r
 rw [ZdA]
 constructor
 ·rintro ⟨n,h⟩
  cases n with
  | zero=>simp only [ZaB] at h;cases h
  | succ n=>rw [ZaB,hp] at h;exact h
 ·intro h
  exact ⟨1,by rw [ZaB,hp];exact h⟩
theorem Zq3 {f:Nat} {fn:Zam} (hp:prim f=none) (hf:fs f=some fn) (args:List AVal) (σ:Za):EV fs prim bf f args σ=Za4 σ.length fn (evC fs prim bf σ.length fn.body (enterA 0 args []) σ):=by
 apply ZeZ
 intro r
 rw [ZdA]
 constructor
 ·rintro ⟨n,h⟩
  cases n with
  | zero=>simp only [ZaB] at h;cases h
  | succ n =>
   rw [ZaB,hp,hf] at h
   exact ZiF (fun q hq=>Zbm.2 ⟨n,hq⟩) h
 ·intro h
  cases hx:evC fs prim bf σ.length fn.body (enterA 0 args []) σ with
  | none=>rw [hx] at h;simp only [Za4] at h;cases h
  | some q =>
   obtain ⟨n,hn⟩:=Zbm.1 hx
   refine ⟨n+1,?_⟩
   rw [ZaB,hp,hf]
   rw [hx] at h
   exact ZiF (x:=some q) (fun q' hq'=>by injection hq' with hq';subst hq';exact hn) h
theorem Zwb {σ:Za} {sq f own:Nat} {view:Bool} {args:List AVal} {r:AVal×Za×Cls} (h:Z4 (EV fs prim bf) bf σ sq f own view args=some r):∃ n,Z4 (ZaB fs prim bf n) bf σ sq f own view args=some r:=by
 unfold Z4 Zck at h ⊢
 split at h
 ·cases h
 ·rename_i vs ts hv
  split at h
  ·rename_i hc
   simp only [hc,if_true]
   cases hx:EV fs prim bf f (ZW (Zd (ZV σ ts) 0 (Zf (ZV σ ts) 1000 (ZZ vs) [])) vs) (Ze (ZV σ ts) 0 (Zf (ZV σ ts) 1000 (ZZ vs) []) (Zd (ZV σ ts) 0 (Zf (ZV σ ts) 1000 (ZZ vs) [])) (Zf (ZV σ ts) 1000 (ZZ vs) []) 0) with
   | none =>
    rw [hx] at h
    cases view <;> simp [ZaC,ZcO,ZaP] at h
   | some q =>
    obtain ⟨n,hn⟩:=ZdA.1 hx
    exact ⟨n,by rw [hn];rw [hx] at h;exact h⟩
  ·cases h
theorem ZCr {tm:Tms} {σ:Za} {sq:Nat} {ins:Ins} {r:AVal×Za×Cls} (h:execI (EV fs prim bf) bf tm σ sq ins=some r):∃ n,execI (ZaB fs prim bf n) bf tm σ sq ins=some r:=by
 cases ins
 case call f own view args =>
  simp only [execI] at h ⊢
  exact Zwb h
 case callv x args =>
  simp only [execI] at h ⊢
  split at h
  ·exact Zwb h
  ·cases h
 all_goals exact ⟨0,h⟩
theorem Zxs {o:AOp} {tm:Tms} {σ:Za} {sq:Nat} {r:AVal×Tms×Za×Cls} (h:Z0 (EV fs prim bf) bf o sq tm σ=some r):∃ n,Z0 (ZaB fs prim bf n) bf o sq tm σ=some r:=by
 unfold Z0 at h ⊢
 split at h
 ·cases h
 ·exact ⟨0,h⟩
 ·split at h
  ·rename_i hf
   simp only [hf,if_true]
   split at h
   ·rename_i he
    obtain ⟨n,hn⟩:=ZCr he
    exact ⟨n,by rw [hn];exact h⟩
   ·cases h
  ·cases h
theorem ZyM:∀ {ops:List AOp} {s:Nat} {tm:Tms} {σ:Za} {r:Tms×Za×List Cls×Option AVal},Z8 (EV fs prim bf) bf ops s tm σ=some r->∃ n,Z8 (ZaB fs prim bf n) bf ops s tm σ=some r
 | [],_,_,_,_,h=>⟨0,h⟩
 | o::ops,s,tm,σ,r,h=>by
  simp only [Z8] at h ⊢
  split at h
  ·cases h
  ·rename_i h1
   obtain ⟨n,hn⟩:=Zxs h1
   exact ⟨n,by rw [hn];exact h⟩
  rename_i v tm1 σ1 c hnp h1
  split at h
  ·cases h
  rename_i h2
  obtain ⟨n,hn⟩:=Zxs h1
  obtain ⟨m,hm⟩:=ZyM h2
  refine ⟨max n m,?_⟩
  rw [Znp (up (Xav n m)) hn]
  simp only
  rw [ZkO (up (Xao n m)) hm]
  exact h
theorem ZEk {ops:List AOp} {chk:Option (List (Nat×Nat))} {live:List Nat} {tm:Tms} {σ:Za} {r:Za2×Tms×Za} (h:Zcr (EV fs prim bf) bf ops chk live tm σ=some r):∃ n,Zcr (ZaB fs prim bf n) bf ops chk live tm σ=some r:=by
 unfold Zcr at h ⊢
 cases hx:Z8 (EV fs prim bf) bf ops σ.length tm (σ++Xr (sitesOf ops) .free) with
 | none=>rw [hx] at h;simp only [Zdu] at h;cases h
 | some q =>
  obtain ⟨n,hn⟩:=ZyM hx
  exact ⟨n,by rw [hn];rw [hx] at h;exact h⟩
theorem ZlF (tm:Tms) (σ:Za):evC fs prim bf m0 .skip tm σ=some (.normal,tm,σ):=Zbm.2 ⟨0,rfl⟩
theorem Zlp (id:Nat) (tm:Tms) (σ:Za):evC fs prim bf m0 (.exit id) tm σ=some (.exit id,tm,σ):=Zbm.2 ⟨0,rfl⟩
theorem ZpG (tm:Tms) (σ:Za):evC fs prim bf m0 .ret tm σ=some (.ret,tm,σ):=Zbm.2 ⟨0,rfl⟩
theorem Zsz {ops:List AOp} {chk:Option (List (Nat×Nat))} {live:List Nat} {tm:Tms} {σ:Za}:evC fs prim bf m0 (.region ops chk live) tm σ=Zcr (EV fs prim bf) bf ops chk live tm σ:=by
 apply ZeZ
 intro r
 rw [Zbm]
 constructor
 ·rintro ⟨n,hn⟩
  simp only [Zab] at hn
  exact ZxT (Zz2 n) hn
 ·intro h
  obtain ⟨n,hn⟩:=ZEk h
  exact ⟨n,by simp only [Zab];exact hn⟩
theorem Zbk {a b:Zv} {tm tm':Tms} {σ σ':Za} (h:evC fs prim bf m0 a tm σ=some (.normal,tm',σ')):evC fs prim bf m0 (.seq a b) tm σ=evC fs prim bf m0 b tm' σ':=by
 obtain ⟨n,hn⟩:=Zbm.1 h
 apply ZeZ
 intro r
 rw [Zbm,Zbm]
 constructor
 ·rintro ⟨m,hm⟩
  have h1:=Zd0 (up (Xav n m)) (Xav n m) hn
  have h2:=Zd0 (up (Xao n m)) (Xao n m) hm
  simp only [Zab,h1] at h2
  exact ⟨_,h2⟩
 ·rintro ⟨m,hm⟩
  have h1:=Zd0 (up (Xav n m)) (Xav n m) hn
  have h2:=Zd0 (up (Xao n m)) (Xao n m) hm
  exact ⟨max n m,by simp only [Zab,h1];exact h2⟩
theorem Zlw {a b:Zv} {tm tm':Tms} {σ σ':Za} {e:Za2} (he:e≠.normal) (h:evC fs prim bf m0 a tm σ=some (e,tm',σ')):evC fs prim bf m0 (.seq a b) tm σ=some (e,tm',σ'):=by
 obtain ⟨n,hn⟩:=Zbm.1 h
 refine Zbm.2 ⟨n,?_⟩
 simp only [Zab,hn]
 cases e with
 | normal=>exact absurd rfl he
 | exit id=>rfl
 | ret=>rfl
 | panic x=>rfl
def Zbt (id:Nat):Za2×Tms×Za->Za2×Tms×Za
 | (.exit i,tm,σ)=>if i=id then (.normal,tm,σ) else (.exit i,tm,σ)
 | r=>r
theorem Zix {id:Nat} {c:Zv} {tm:Tms} {σ:Za}:evC fs prim bf m0 (.block id c) tm σ=(evC fs prim bf m0 c tm σ).map (Zbt id):=by
 have step:∀ n,Zab (ZaB fs prim bf n) bf m0 n (.block id c) tm σ=(Zab (ZaB fs prim bf n) bf m0 n c tm σ).map (Zbt id):=by
  intro n
  simp only [Zab]
  cases Zab (ZaB fs prim bf n) bf m0 n c tm σ with
  | none=>rfl
  | some q =>
   obtain ⟨e,tm1,σ1⟩:=q
   cases e with
   | normal=>rfl
   | ret=>rfl
   | panic x=>rfl
   | exit i=>simp only [X4,Zbt];split <;> rfl
 apply ZeZ;intro r
 rw [Zbm]
 simp only [step,XB]
 constructor
 ·rintro ⟨n,q,h1,h2⟩;exact ⟨q,Zbm.2 ⟨n,h1⟩,h2⟩
 ·rintro ⟨q,h1,h2⟩;obtain ⟨n,hn⟩:=Zbm.1 h1;exact ⟨n,q,hn,h2⟩
theorem ZFQ {c:Zv} {tm:Tms} {σ:Za} (h:evC fs prim bf m0 c tm σ=none) (n:Nat):Zab (ZaB fs prim bf n) bf m0 n c tm σ=none:=by
 cases hx:Zab (ZaB fs prim bf n) bf m0 n c tm σ with
 | none=>rfl
 | some r=>rw [Zbm.2 ⟨n,hx⟩] at h;cases h
variable (fs prim bf m0) in
noncomputable def ZcK (b:Zv):Option (Za2×Tms×Za)->Option (Za2×Tms×Za)
 | some (.normal,tm,σ)=>evC fs prim bf m0 b tm σ
 | r=>r
theorem Ztp {a b:Zv} {tm:Tms} {σ:Za}:evC fs prim bf m0 (.seq a b) tm σ=ZcK fs prim bf m0 b (evC fs prim bf m0 a tm σ):=by
 cases h:evC fs prim bf m0 a tm σ with
 | none =>
  simp only [ZcK]
  apply ZeZ;intro r
  rw [Zbm]
  constructor
  ·rintro ⟨n,hn⟩
   simp only [Zab,ZFQ h n] at hn
   cases hn
  ·intro h;cases h
 | some q =>
  obtain ⟨e,tm',σ'⟩:=q
  cases e with
  | normal=>exact Zbk h
  | exit id=>exact Zlw (by simp) h
  | ret=>exact Zlw (by simp) h
  | panic x=>exact Zlw (by simp) h
variable (fs prim bf m0) in
noncomputable def Zid (a b:Zv) (tm:Tms) (σ:Za):AVal->Option (Za2×Tms×Za)
 | .bool true=>evC fs prim bf m0 a tm σ
 | .bool false=>evC fs prim bf m0 b tm σ
 | _=>none
theorem ZmV {c:Opd} {a b:Zv} {tm:Tms} {σ:Za}:evC fs prim bf m0 (.cond c a b) tm σ=Zid fs prim bf m0 a b tm σ (c.ev tm):=by
 apply ZeZ;intro r
 rw [Zbm]
 simp only [Zab]
 constructor
 ·rintro ⟨n,hn⟩
  split at hn
  ·rename_i e;rw [e];simp only [Zid];exact Zbm.2 ⟨n,hn⟩
  ·rename_i e;rw [e];simp only [Zid];exact Zbm.2 ⟨n,hn⟩
  ·cases hn
 ·intro h
  unfold Zid at h
  split at h
  ·rename_i e;obtain ⟨n,hn⟩:=Zbm.1 h;exact ⟨n,by rw [e];exact hn⟩
  ·rename_i e;obtain ⟨n,hn⟩:=Zbm.1 h;exact ⟨n,by rw [e];exact hn⟩
  ·cases h
variable (fs prim bf m0) in
noncomputable def evL (live:List Nat) (c:Zv) (tm:Tms) (σ:Za):Option (Za2×Tms×Za) :=
 match evC fs prim bf m0 c tm σ with
 | some (.normal,tm',σ')=>evC fs prim bf m0 (.loop live c) tm' σ'
 | r=>r
theorem Zrx {live:List Nat} {c:Zv} {tm:Tms} {σ:Za}:evC fs prim bf m0 (.loop live c) tm σ=evL fs prim bf m0 live c (gcT m0 (keepL live tm) σ).1 (gcT m0 (keepL live tm) σ).2:=by
 apply ZeZ;intro r
 rw [Zbm]
 constructor
 ·rintro ⟨n,hn⟩
  simp only [Zab] at hn
  cases n with
  | zero=>simp only [ZdP] at hn;cases hn
  | succ k =>
   simp only [ZdP] at hn
   unfold evL
   cases hx:Zab (ZaB fs prim bf (k+1)) bf m0 (k+1) c (gcT m0 (keepL live tm) σ).1 (gcT m0 (keepL live tm) σ).2 with
   | none=>rw [hx] at hn;cases hn
   | some q =>
    rw [Zbm.2 ⟨_,hx⟩]
    rw [hx] at hn
    obtain ⟨e,tm',σ'⟩:=q
    cases e with
    | normal =>
     simp only at hn ⊢
     exact Zbm.2 ⟨k+1,by simp only [Zab];exact Zjq (fun _ _ _ h=>h) (by omega) hn⟩
    | exit id=>exact hn
    | ret=>exact hn
    | panic x=>exact hn
 ·intro h
  unfold evL at h
  cases hx:evC fs prim bf m0 c (gcT m0 (keepL live tm) σ).1 (gcT m0 (keepL live tm) σ).2 with
  | none=>rw [hx] at h;cases h
  | some q =>
   rw [hx] at h
   obtain ⟨n,hn⟩:=Zbm.1 hx
   obtain ⟨e,tm',σ'⟩:=q
   have out:e≠.normal->some (e,tm',σ')=some r->∃ n,Zab (ZaB fs prim bf n) bf m0 n (.loop live c) tm σ=some r:=by
    intro he h
    refine ⟨n+1,?_⟩
    have h1:=Zd0 (up (show n<=n+1 by omega)) (show n<=n+1 by omega) hn
    simp only [Zab,ZdP,h1]
    cases e with
    | normal=>exact absurd rfl he
    | exit id=>exact h
    | ret=>exact h
    | panic x=>exact h
   cases e with
   | normal =>
    simp only at h
    obtain ⟨m,hm⟩:=Zbm.1 h
    have h1:=Zd0 (up (show n<=max n m+1 by omega)) (show n<=max n m+1 by omega) hn
    have h2:=Zd0 (up (show m<=max n m+1 by omega)) (X0 m) hm
    simp only [Zab] at h2
    refine ⟨max n m+1,?_⟩
    simp only [Zab,ZdP,h1]
    exact Zjq (fun tm σ r h=>Zd0 (fun _ _ _ _ h=>h) (by omega) h) (by omega) h2
   | exit id=>exact out (by simp) h
   | ret=>exact out (by simp) h
   | panic x=>exact out (by simp) h
theorem Zxg {P:Program} (hm:P.follows .mixedOrders=true) {prim:Zbz} (hP:ZgP P prim) (ann:Nat->Ann) (bf:Nat->Bool):ZaF P (EV (Zic P ann) prim bf):=by
 intro f args σ r σ' h
 obtain ⟨n,hn⟩:=ZdA.1 h
 exact ZsK hm hP ann bf n f args σ r σ' hn
end
end
section
open Go.RowKit
def ZxB:Tms×Za×List Cls×Option AVal->Tms×Za×Option AVal:=fun q=>(q.1,q.2.1,q.2.2.2)
def Za1:AVal->Bool
 | .pan _=>true
 | _=>false
section
variable (O:Z7) (bf:Nat->Bool)
def exI (i:Ins) (s:Nat) (tm:Tms) (σ:Za):Option (AVal×Za×Cls) :=
 if nsite i == 0 || freeAt σ s then execI O bf tm σ s i else none
def Zbf (ops:List AOp) (s:Nat) (tm:Tms) (σ:Za):Option (Tms×Za×Option AVal):=(Z8 O bf ops s tm σ).map ZxB
def kN (d:Option Nat) (os:List AOp) (s:Nat) (tm:Tms):Option (AVal×Za×Cls)->Option (Tms×Za×Option AVal)
 | none=>none
 | some (v,σ,_)=>if Za1 v then some (tput tm d v,σ,some (ZaN v)) else Zbf O bf os s (tput tm d v) σ
def ZiU (live:List Nat):Option (Tms×Za×Option AVal)->Option (Za2×Tms×Za)
 | none=>none
 | some (_,σ,some x)=>some (.panic x,[],σ)
 | some (tm,σ,none)=>some (.normal,keepL live tm,σ)
variable {O bf}
theorem ZiG (s:Nat) (tm:Tms) (σ:Za):Zbf O bf [] s tm σ=some (tm,σ,none):=rfl
theorem Zik {o:AOp} {os:List AOp} {s:Nat} {tm:Tms} {σ:Za} (h:Z0 O bf o s tm σ=none):Z8 O bf (o::os) s tm σ=none:=by simp only [Z8,h]
theorem ZiP {o:AOp} {os:List AOp} {s:Nat} {tm tm1:Tms} {σ σ1:Za} {x:AVal} {c:Cls} (h:Z0 O bf o s tm σ=some (.pan x,tm1,σ1,c)):Z8 O bf (o::os) s tm σ=some (tm1,σ1,[c],some x):=by simp only [Z8,h]
theorem ZzE {o:AOp} {os:List AOp} {s:Nat} {tm tm1:Tms} {σ σ1:Za} {v:AVal} {c:Cls} (h:Z0 O bf o s tm σ=some (v,tm1,σ1,c)) (hn:Za1 v=false):Z8 O bf (o::os) s tm σ=(Z8 O bf os (s+nsite o.ins) tm1 σ1).map fun q=>(q.1,q.2.1,c::q.2.2.1,q.2.2.2):=by
 simp only [Z8,h]
 cases v <;> first
  | (simp [Za1] at hn;done)
  | (simp only;cases Z8 O bf os (s+nsite o.ins) tm1 σ1 <;> rfl)
theorem ZjL {o:AOp} {os:List AOp} {s:Nat} {tm:Tms} {σ:Za} (h:Z0 O bf o s tm σ=none):Zbf O bf (o::os) s tm σ=none:=by simp only [Zbf,Zik h,Option.map_none]
theorem Znu {o:AOp} {os:List AOp} {s:Nat} {tm tm1:Tms} {σ σ1:Za} {x:AVal} {c:Cls} (h:Z0 O bf o s tm σ=some (.pan x,tm1,σ1,c)):Zbf O bf (o::os) s tm σ=some (tm1,σ1,some x):=by simp only [Zbf,ZiP h,X4,ZxB]
theorem Zj5 {o:AOp} {os:List AOp} {s:Nat} {tm tm1:Tms} {σ σ1:Za} {v:AVal} {c:Cls} (h:Z0 O bf o s tm σ=some (v,tm1,σ1,c)) (hn:Za1 v=false):Zbf O bf (o::os) s tm σ=Zbf O bf os (s+nsite o.ins) tm1 σ1:=by
 simp only [Zbf,ZzE h hn,Option.map_map]
 rfl
theorem ZkB {v:AVal} (h:Za1 v=true):∃ x,v=.pan x:=by
 cases v <;> first | exact ⟨_,rfl⟩ | (simp [Za1] at h;done)
theorem ZjQ {d:Option Nat} {i:Ins} {af:List Nat} {s:Nat} {tm:Tms} {σ:Za}:Z0 O bf ⟨d,i,none,af⟩ s tm σ=(exI O bf i s tm σ).map fun q=>(q.1,tput tm d q.1,q.2.1,q.2.2):=by
 unfold Z0 exI
 simp only [Zbq]
 split
 ·cases execI O bf tm σ s i with
  | none=>rfl
  | some q=>rfl
 ·rfl
theorem ZhV (d:Option Nat) (i:Ins) (af:List Nat) (os:List AOp) (s:Nat) (tm:Tms) (σ:Za):Zbf O bf (⟨d,i,none,af⟩::os) s tm σ=kN O bf d os (s+nsite i) tm (exI O bf i s tm σ):=by
 cases h:exI O bf i s tm σ with
 | none=>exact ZjL (by rw [ZjQ,h];rfl)
 | some q =>
  obtain ⟨v,σ1,c⟩:=q
  have hs:Z0 O bf ⟨d,i,none,af⟩ s tm σ=some (v,tput tm d v,σ1,c):=by rw [ZjQ,h];rfl
  cases hp:Za1 v with
  | true =>
   obtain ⟨x,rfl⟩:=ZkB hp
   exact Znu hs
  | false =>
   rw [Zj5 hs hp]
   simp only [kN,hp,Xu,if_false]
theorem ZuB (ops:List AOp) (live:List Nat) (tm:Tms) (σ:Za):Zcr O bf ops none live tm σ=ZiU live (Zbf O bf ops σ.length tm (σ++Xr (sitesOf ops) .free)):=by
 unfold Zcr Zbf
 cases Z8 O bf ops σ.length tm (σ++Xr (sitesOf ops) .free) with
 | none=>rfl
 | some q =>
  obtain ⟨tm',σ',cs,p⟩:=q
  cases p <;> rfl
theorem Ziu (d:Option Nat) (os:List AOp) (s:Nat) (tm:Tms) (v:AVal) (σ:Za) (c:Cls) (h:Za1 v=false):kN O bf d os s tm (some (v,σ,c))=Zbf O bf os s (tput tm d v) σ:=by
 simp only [kN,h,Xu,if_false]
theorem Zk4 (d:Option Nat) (os:List AOp) (s:Nat) (tm:Tms) (x:AVal) (σ:Za) (c:Cls):kN O bf d os s tm (some (.pan x,σ,c))=some (tput tm d (.pan x),σ,some x):=rfl
theorem ZrP (d:Option Nat) (os:List AOp) (s:Nat) (tm:Tms):kN O bf d os s tm none=none:=rfl
structure GOp where
 guard:Option (Nat×Bool)
 ops:List AOp
def Zz:List AOp->Tms->Tms
 | [],tm=>tm
 | o::os,tm=>Zz os (tput tm o.dst (.tup []))
def unG (o:AOp):AOp:={ o with guard:=none }
variable (O bf) in
def Zew (j:Nat) (w:Bool) (g:List AOp) (s:Nat) (tm:Tms) (σ:Za):Option (Tms×Za×Option AVal):=match Zbq (some (j,w)) tm with
 | none=>none
 | some false=>some (Zz g tm,σ,none)
 | some true=>Zbf O bf (g.map unG) s tm σ
variable (O bf) in
def gK (os:List AOp) (s:Nat):Option (Tms×Za×Option AVal)->Option (Tms×Za×Option AVal)
 | none=>none
 | some (tm,σ,some x)=>some (tm,σ,some x)
 | some (tm,σ,none)=>Zbf O bf os s tm σ
def Zu (j:Nat) (w:Bool):List AOp->List AOp×List AOp
 | []=>([],[])
 | o::os=>match o.guard with
  | some (j',w')=>if j'=j/\w'=w/\o.dst≠some j then ((o::(Zu j w os).1),(Zu j w os).2) else ([],o::os)
  | none=>([],o::os)
theorem ZoS (j:Nat) (w:Bool):∀ os,(Zu j w os).1++(Zu j w os).2=os
 | []=>rfl
 | o::os=>by
  simp only [Zu]
  split
  ·split
   ·simp [ZoS j w os]
   ·rfl
  ·rfl
theorem Zrk (j:Nat) (w:Bool):∀ os,∀ o ∈ (Zu j w os).1,o.guard=some (j,w)/\o.dst≠some j
 | []=>by simp [Zu]
 | o::os=>by
  intro o' ho
  simp only [Zu] at ho
  split at ho
  ·rename_i j' w' hg
   split at ho
   ·rename_i hc
    rcases XP.1 ho with rfl | ho
    ·exact ⟨by rw [hg,hc.1,hc.2.1],hc.2.2⟩
    ·exact Zrk j w os o' ho
   ·simp at ho
  ·simp at ho
theorem ZFF {d:Option Nat} {v:AVal} {n:Nat} {tm:Tms} (h:d≠some n):tget (tput tm d v) n=tget tm n:=by
 cases d with
 | none=>rfl
 | some d =>
  have : d≠n:=by rintro rfl;exact h rfl
  simp only [tput,Zg3,this,if_false]
theorem Zfn {d:Option Nat} {v:AVal} {j:Nat} {w:Bool} {tm:Tms} (h:d≠some j):Zbq (some (j,w)) (tput tm d v)=Zbq (some (j,w)) tm:=by
 simp only [Zbq,ZFF h]
theorem ZxC:∀ (a b:List AOp) (s:Nat) (tm:Tms) (σ:Za),Zbf O bf (a++b) s tm σ=gK O bf b (s+sitesOf a) (Zbf O bf a s tm σ)
 | [],b,s,tm,σ=>by simp [ZiG,gK,sitesOf]
 | o::a,b,s,tm,σ=>by
  have ih:=ZxC a b
  simp only [X1]
  have hs:s+nsite o.ins+sitesOf a=s+sitesOf (o::a):=by simp [sitesOf,W2]
  cases hst:Z0 O bf o s tm σ with
  | none=>rw [ZjL hst,ZjL hst];rfl
  | some q =>
   obtain ⟨v,tm1,σ1,c⟩:=q
   cases hp:Za1 v with
   | true =>
    obtain ⟨x,rfl⟩:=ZkB hp
    rw [Znu hst,Znu hst];rfl
   | false=>rw [Zj5 hst hp,Zj5 hst hp,ih,hs]
theorem ZwQ (j:Nat) (w:Bool):∀ (g:List AOp),(∀ o ∈ g,o.guard=some (j,w)/\o.dst≠some j)->∀ (s:Nat) (tm:Tms) (σ:Za),g≠[]->Zbf O bf g s tm σ=Zew O bf j w g s tm σ
 | [],_,_,_,_,h=>absurd rfl h
 | o::g,hall,s,tm,σ,_=>by
  obtain ⟨hg,hd⟩:=hall o (by simp)
  have ih:∀ (tm:Tms) (σ:Za) (s:Nat),Zbq (some (j,w)) tm≠none->Zbf O bf g s tm σ=Zew O bf j w g s tm σ:=by
   intro tm σ s hw
   by_cases he:g=[]
   ·subst he
    unfold Zew
    cases hx:Zbq (some (j,w)) tm with
    | none=>exact absurd hx hw
    | some b=>cases b <;> rfl
   ·exact ZwQ j w g (fun o ho=>hall o (by simp [ho])) s tm σ he
  cases hx:Zbq (some (j,w)) tm with
  | none =>
   rw [ZjL (by simp only [Z0,hg,hx])]
   simp only [Zew,hx]
  | some b =>
   cases b with
   | false =>
    have h1:Zbf O bf (o::g) s tm σ=Zbf O bf g (s+nsite o.ins) (tput tm o.dst (.tup [])) σ :=
     Zj5 (v:=.tup []) (c:={}) (by simp only [Z0,hg,hx]) rfl
    rw [h1,ih _ _ _ (by rw [Zfn hd,hx];simp)]
    unfold Zew
    rw [Zfn hd,hx]
    rfl
   | true =>
    have key:∀ r:Option (AVal×Za×Cls),(∀ v σ' c,r=some (v,σ',c)->Za1 v=false->Zbf O bf g (s+nsite o.ins) (tput tm o.dst v) σ'=Zbf O bf (g.map unG) (s+nsite o.ins) (tput tm o.dst v) σ')->kN O bf o.dst g (s+nsite o.ins) tm r=kN O bf o.dst (g.map unG) (s+nsite o.ins) tm r:=by
     intro r hr
     cases r with
     | none=>rfl
     | some q =>
      obtain ⟨v,σ',c⟩:=q
      cases hp:Za1 v with
      | true=>simp only [kN,hp,if_true]
      | false=>rw [Ziu _ _ _ _ _ _ _ hp,Ziu _ _ _ _ _ _ _ hp];exact hr v σ' c rfl hp
    have h1:Zbf O bf (o::g) s tm σ=kN O bf o.dst g (s+nsite o.ins) tm (exI O bf o.ins s tm σ):=by
     have h0:Zbf O bf (o::g) s tm σ=Zbf O bf (⟨o.dst,o.ins,none,o.after⟩::g) s tm σ:=by
      have hst:Z0 O bf o s tm σ=Z0 O bf ⟨o.dst,o.ins,none,o.after⟩ s tm σ:=by
       unfold Z0
       simp only [hg,hx]
       rfl
      unfold Zbf
      simp only [Z8,hst]
     rw [h0,ZhV]
    rw [h1]
    unfold Zew
    rw [hx]
    simp only [Xw]
    rw [show unG o=⟨o.dst,o.ins,none,o.after⟩ from rfl,ZhV]
    refine key _ fun v σ' c _ _=>?_
    rw [ih _ _ _ (by rw [Zfn hd,hx];simp)]
    unfold Zew
    rw [Zfn hd,hx]
theorem Zmr (d:Option Nat) (i:Ins) (j:Nat) (w:Bool) (af:List Nat) (os:List AOp) (s:Nat) (tm:Tms) (σ:Za) (hd:decide (d=some j)=false) :
  Zbf O bf (⟨d,i,some (j,w),af⟩::os) s tm σ=gK O bf (Zu j w os).2 (s+sitesOf (⟨d,i,some (j,w),af⟩::(Zu j w os).1)) (Zew O bf j w (⟨d,i,some (j,w),af⟩::(Zu j w os).1) s tm σ):=by
 have h:=ZoS j w os
 have hall:∀ o ∈ (⟨d,i,some (j,w),af⟩::(Zu j w os).1:List AOp),o.guard=some (j,w)/\o.dst≠some j:=by
  intro o ho
  rcases XP.1 ho with rfl | ho
  ·exact ⟨rfl,by simpa using hd⟩
  ·exact Zrk j w os o ho
 rw [<-ZwQ j w _ hall s tm σ (by simp),<-ZxC,X1,h]
variable (O bf) in
def gW (w:Bool) (g:List AOp) (s:Nat) (tm:Tms) (σ:Za):AVal->Option (Tms×Za×Option AVal)
 | .bool b=>if b=w then Zbf O bf (g.map unG) s tm σ else some (Zz g tm,σ,none)
 | .tup []=>some (Zz g tm,σ,none)
 | _=>none
theorem Zqd (j:Nat) (w:Bool) (g:List AOp) (s:Nat) (tm:Tms) (σ:Za):Zew O bf j w g s tm σ=gW O bf w g s tm σ (tget tm j):=by
 unfold Zew Zbq
 simp only
 generalize tget tm j=v
 cases v
 case bool b=>cases b <;> cases w <;> rfl
 case tup vs=>cases vs <;> rfl
 all_goals rfl
theorem Zre (w:Bool) (g:List AOp) (s:Nat) (tm:Tms) (σ:Za) (b:Bool):gW O bf w g s tm σ (.bool b)=if b=w then Zbf O bf (g.map unG) s tm σ else some (Zz g tm,σ,none):=rfl
theorem Zlo (w:Bool) (g:List AOp) (s:Nat) (tm:Tms) (σ:Za):gW O bf w g s tm σ (.tup [])=some (Zz g tm,σ,none):=rfl
theorem Zmj (os:List AOp) (s:Nat) (tm:Tms) (σ:Za):gK O bf os s (some (tm,σ,none))=Zbf O bf os s tm σ:=rfl
end
section
variable (c:Prop) [Decidable c]
theorem ZL {α:Type} (a b:α) (x y:List α):(if c then a::x else b::y)=(if c then a else b)::(if c then x else y):=by split <;> rfl
theorem Zqm (k:IntKind) (a b:Int):(if c then AVal.int k a else AVal.int k b)=AVal.int k (if c then a else b):=by split <;> rfl
theorem ZqX (a b:Bool):(if c then AVal.bool a else AVal.bool b)=AVal.bool (if c then a else b):=by split <;> rfl
theorem ZqT (a b:List UInt8):(if c then AVal.str a else AVal.str b)=AVal.str (if c then a else b):=by split <;> rfl
theorem Zk7 (p q:Bool) (a b:List AVal):(if c then AVal.lst p a else AVal.lst q b)=AVal.lst (if c then p else q) (if c then a else b):=by split <;> rfl
theorem Znx (a b:List AVal):(if c then AVal.agg a else AVal.agg b)=AVal.agg (if c then a else b):=by split <;> rfl
theorem ZpM (a b:List AVal):(if c then Zq.var a else Zq.var b)=Zq.var (if c then a else b):=by split <;> rfl
theorem ZrI (g k:Nat) (a b:List AVal):(if c then Zq.row g k a else Zq.row g k b)=Zq.row g k (if c then a else b):=by split <;> rfl
theorem Zrq (t:Nat) (a b:Nat):(if c then AVal.ref t a else AVal.ref t b)=AVal.ref t (if c then a else b):=by split <;> rfl
theorem ZM {α:Type} (x y z:α):(if c then (if c then x else y) else z)=if c then x else z:=by split <;> rfl
theorem ZO {α:Type} (x y z:α):(if c then x else (if c then y else z))=if c then x else z:=by split <;> rfl
theorem ZT {α:Type} (x y z:α):(if c then (if ¬c then x else y) else z)=if c then y else z:=by split <;> simp_all
theorem ZR {α:Type} (x y z:α):(if c then x else (if ¬c then y else z))=if c then x else y:=by split <;> simp_all
theorem Zrj (σ:Za) (a b:AVal) (p:Bool):ZfI σ a b (.bool p)=some (if p=true then a else b,σ,{}):=by cases p <;> rfl
theorem Zvo (a b:AVal):Za1 (if c then a else b)=if c then Za1 a else Za1 b:=by split <;> rfl
end
section
variable {fs:Nat->Option Zam} {prim:Zbz} {bf:Nat->Bool} {m0:Nat}
theorem ZtG (p:Bool) (a b:Zv) (tm:Tms) (σ:Za):Zid fs prim bf m0 a b tm σ (.bool p)=if p=true then evC fs prim bf m0 a tm σ else evC fs prim bf m0 b tm σ:=by
 cases p <;> rfl
theorem ZpH (b:Zv) (tm:Tms) (σ:Za):ZcK fs prim bf m0 b (some (.normal,tm,σ))=evC fs prim bf m0 b tm σ:=rfl
theorem Zsk (b:Zv) (i:Nat) (tm:Tms) (σ:Za):ZcK fs prim bf m0 b (some (.exit i,tm,σ))=some (.exit i,tm,σ):=rfl
theorem ZlY (b:Zv) (tm:Tms) (σ:Za):ZcK fs prim bf m0 b (some (.ret,tm,σ))=some (.ret,tm,σ):=rfl
theorem ZqW (b:Zv) (x:AVal) (tm:Tms) (σ:Za):ZcK fs prim bf m0 b (some (.panic x,tm,σ))=some (.panic x,tm,σ):=rfl
theorem Zso (c:Prop) [Decidable c] (b:Zv) (x y:Option (Za2×Tms×Za)):ZcK fs prim bf m0 b (if c then x else y)=if c then ZcK fs prim bf m0 b x else ZcK fs prim bf m0 b y:=by split <;> rfl
theorem ZsN (id:Nat) (tm:Tms) (σ:Za):Xah (Zbt id) (some (.normal,tm,σ))=some (.normal,tm,σ):=rfl
theorem Zlh (id i:Nat) (tm:Tms) (σ:Za):Xah (Zbt id) (some (.exit i,tm,σ))=if i=id then some (.normal,tm,σ) else some (.exit i,tm,σ):=by
 simp only [X4,Zbt];split <;> rfl
theorem Zte (id:Nat) (tm:Tms) (σ:Za):Xah (Zbt id) (some (.ret,tm,σ))=some (.ret,tm,σ):=rfl
theorem Zmi (id:Nat) (x:AVal) (tm:Tms) (σ:Za):Xah (Zbt id) (some (.panic x,tm,σ))=some (.panic x,tm,σ):=rfl
theorem Zn5 (id:Nat) (c:Prop) [Decidable c] (x y:Option (Za2×Tms×Za)):Xah (Zbt id) (if c then x else y)=if c then Xah (Zbt id) x else Xah (Zbt id) y:=by split <;> rfl
theorem ZnO (m:Nat) (fn:Zam) (c:Prop) [Decidable c] (x y:Option (Za2×Tms×Za)):Za4 m fn (if c then x else y)=if c then Za4 m fn x else Za4 m fn y:=by split <;> rfl
end
section
variable {fs:Nat->Option Zam} {prim:Zbz} {bf:Nat->Bool} {m0:Nat}
theorem ZgK {live:List Nat} {c:Zv} {tm tm':Tms} {σ σ':Za} (h:evC fs prim bf m0 c tm σ=some (.normal,tm',σ')):evL fs prim bf m0 live c tm σ=evL fs prim bf m0 live c (gcT m0 (keepL live tm') σ').1 (gcT m0 (keepL live tm') σ').2:=by
 unfold evL
 rw [h]
 simp only
 rw [Zrx]
 rfl
theorem Zfw {live:List Nat} {c:Zv} {tm tm':Tms} {σ σ':Za} {i:Nat} (h:evC fs prim bf m0 c tm σ=some (.exit i,tm',σ')):evL fs prim bf m0 live c tm σ=some (.exit i,tm',σ'):=by
 unfold evL;rw [h]
theorem ZzU {live:List Nat} {c:Zv} {tm tm':Tms} {σ σ':Za} (h:evC fs prim bf m0 c tm σ=some (.ret,tm',σ')):evL fs prim bf m0 live c tm σ=some (.ret,tm',σ'):=by
 unfold evL;rw [h]
variable (fs prim bf m0) in
noncomputable def evM (live:List Nat) (c:Zv):Option (Za2×Tms×Za)->Option (Za2×Tms×Za)
 | some (.normal,tm,σ)=>evL fs prim bf m0 live c (gcT m0 (keepL live tm) σ).1 (gcT m0 (keepL live tm) σ).2
 | r=>r
theorem Zbe (live:List Nat) (c:Zv) (tm:Tms) (σ:Za):evL fs prim bf m0 live c tm σ=evM fs prim bf m0 live c (evC fs prim bf m0 c tm σ):=by
 cases h:evC fs prim bf m0 c tm σ with
 | none=>unfold evL;rw [h];rfl
 | some q =>
  obtain ⟨e,tm',σ'⟩:=q
  cases e with
  | normal=>exact ZgK h
  | exit i=>exact Zfw h
  | ret=>exact ZzU h
  | panic x=>unfold evL;rw [h];rfl
theorem ZEA (live:List Nat) (c:Zv) (tm:Tms) (σ:Za):evM fs prim bf m0 live c (some (.normal,tm,σ))=evL fs prim bf m0 live c (gcT m0 (keepL live tm) σ).1 (gcT m0 (keepL live tm) σ).2:=rfl
theorem Zt4 (live:List Nat) (c:Zv) (i:Nat) (tm:Tms) (σ:Za):evM fs prim bf m0 live c (some (.exit i,tm,σ))=some (.exit i,tm,σ):=rfl
theorem ZuU (live:List Nat) (c:Zv) (tm:Tms) (σ:Za):evM fs prim bf m0 live c (some (.ret,tm,σ))=some (.ret,tm,σ):=rfl
theorem Zuc (live:List Nat) (c:Zv) (x:AVal) (tm:Tms) (σ:Za):evM fs prim bf m0 live c (some (.panic x,tm,σ))=some (.panic x,tm,σ):=rfl
theorem Zlf (live:List Nat) (b:Zv) (c:Prop) [Decidable c] (x y:Option (Za2×Tms×Za)):evM fs prim bf m0 live b (if c then x else y)=if c then evM fs prim bf m0 live b x else evM fs prim bf m0 live b y:=by split <;> rfl
end
def Zbb:AVal->Bool
 | .int _ _=>true
 | .bool _=>true
 | .str _=>true
 | .nilp=>true
 | .nilm=>true
 | .nili=>true
 | .lst _ _=>true
 | .fn _ []=>true
 | _=>false
def ZaO:AVal->Bool
 | .agg cs=>cs.all Zbb
 | x=>Zbb x
def ZaZ:AVal->AVal
 | .lst _ xs=>.lst false xs
 | x=>x
def Zal:AVal->AVal
 | .agg cs=>.agg (cs.map ZaZ)
 | x=>ZaZ x
theorem ZxD {σ:Za} {x:AVal} (h:Zbb x=true):Zc4 σ x=some (ZaZ x,[]):=by
 cases x <;> first | (simp [Zbb] at h;done) | rfl
theorem Zv2 {σ:Za}:∀ {xs:List AVal},xs.all Zbb=true->ZcX σ xs=some (xs.map ZaZ,[])
 | [],_=>rfl
 | x::xs,h=>by
  simp only [Xi,Xt] at h
  simp only [ZcX,ZxD h.1,Zv2 h.2,Xw,X2]
theorem ZgR {x:AVal} (h:∀ cs,x≠.agg cs):ZaO x=Zbb x/\Zal x=ZaZ x:=by
 cases x <;> first | exact ⟨rfl,rfl⟩ | exact absurd rfl (h _)
theorem ZAG {σ:Za} {x:AVal} (h:∀ cs,x≠.agg cs):showA σ x=Zc4 σ x:=by
 cases x <;> first | rfl | exact absurd rfl (h _)
theorem ZqY (x:AVal):(∃ cs,x=.agg cs)\/∀ cs,x≠.agg cs:=by
 cases x <;> first | exact XH ⟨_,rfl⟩ | (right;intro cs;simp)
theorem ZBp {σ:Za} {x:AVal} (h:ZaO x=true):showA σ x=some (Zal x,[]):=by
 rcases ZqY x with ⟨cs,rfl⟩ | hn
 ·simp only [ZaO] at h
  simp only [showA,Zv2 h,Zal]
 ·rw [(ZgR hn).1] at h
  rw [ZAG hn,(ZgR hn).2]
  exact ZxD h
theorem Zzg {σ:Za}:∀ {xs:List AVal},xs.all ZaO=true->showAs σ xs=some (xs.map Zal,[])
 | [],_=>rfl
 | x::xs,h=>by
  simp only [Xi,Xt] at h
  simp only [showAs,ZBp h.1,Zzg h.2,Xw,X2]
theorem ZwT {x:AVal} (h:Zbb x=true):Z6 (ZaZ x)=[]:=by
 cases x
 case fn f cs=>cases cs <;> simp [Zbb] at h;rfl
 all_goals first | (simp [Zbb] at h;done) | rfl
theorem Zx9:∀ {xs:List AVal},xs.all Zbb=true->ZZ (xs.map ZaZ)=[]
 | [],_=>rfl
 | x::xs,h=>by
  simp only [Xi,Xt] at h
  simp only [Xw,ZZ,ZwT h.1,Zx9 h.2,X2]
theorem ZD4 {x:AVal} (h:ZaO x=true):Z6 (Zal x)=[]:=by
 rcases ZqY x with ⟨cs,rfl⟩ | hn
 ·simp only [ZaO] at h
  simp only [Zal,Z6];exact Zx9 h
 ·rw [(ZgR hn).1] at h
  rw [(ZgR hn).2];exact ZwT h
theorem ZkA:∀ {xs:List AVal},xs.all ZaO=true->ZZ (xs.map Zal)=[]
 | [],_=>rfl
 | x::xs,h=>by
  simp only [Xi,Xt] at h
  simp only [Xw,ZZ,ZD4 h.1,ZkA h.2,X2]
theorem Zv4 {ρ:Rho} {x:AVal} (h:Zbb x=true):Zs ρ (ZaZ x)=ZaZ x:=by
 cases x
 case fn f cs=>cases cs <;> simp [Zbb] at h;rfl
 all_goals first | (simp [Zbb] at h;done) | rfl
theorem Zyn {ρ:Rho}:∀ {xs:List AVal},xs.all Zbb=true->ZW ρ (xs.map ZaZ)=xs.map ZaZ
 | [],_=>rfl
 | x::xs,h=>by
  simp only [Xi,Xt] at h
  simp only [Xw,ZW,Zv4 h.1,Zyn h.2]
theorem ZET {ρ:Rho} {x:AVal} (h:ZaO x=true):Zs ρ (Zal x)=Zal x:=by
 rcases ZqY x with ⟨cs,rfl⟩ | hn
 ·simp only [ZaO] at h
  simp only [Zal,Zs];rw [Zyn h]
 ·rw [(ZgR hn).1] at h
  rw [(ZgR hn).2];exact Zv4 h
theorem ZjG {ρ:Rho}:∀ {xs:List AVal},xs.all ZaO=true->ZW ρ (xs.map Zal)=xs.map Zal
 | [],_=>rfl
 | x::xs,h=>by
  simp only [Xi,Xt] at h
  simp only [Xw,ZW,ZET h.1,ZjG h.2]
theorem Zdr {O:Z7} {bf:Nat->Bool} {σ:Za} {sq f own:Nat} {view:Bool} {args:List AVal} (hb:bf f=false) (h:args.all ZaO=true) :
  Z4 O bf σ sq f own view args=ZaP σ σ [] [] sq own (ZaC view 0 (O f (args.map Zal) [])):=by
 unfold Z4 ZcZ
 rw [hb]
 simp only [Xu,if_false,Zzg h]
 have h1:ZV σ []=σ:=rfl
 rw [h1,ZkA h]
 have h2:Zf σ 1000 [] []=[]:=rfl
 rw [h2]
 unfold Zck
 simp only [Xp,if_true,ZjG h,Ze,Xy]
theorem ZhD (σ:Za) (sq own:Nat) (r:AVal) (h:Zs (Za8 [] [] sq) r=r):ZaP σ σ [] [] sq own (some (r,[]))=some (r,σ,{}):=by
 simp only [ZaP,Xab,WX,if_true,Zdi,WD,W0,Xu,if_false]
 split
 ·rfl
 ·rw [h]
end
section
section
variable (ρ:Rho) (σ:Za)
theorem Zn2  : Za1 (.top)=false:=rfl
theorem ZsB  : Za1 (.any)=false:=rfl
theorem Znr (k:IntKind) (n:Int):Za1 (.int k n)=false:=rfl
theorem ZoA (b:Bool):Za1 (.bool b)=false:=rfl
theorem Zon (l:List UInt8):Za1 (.str l)=false:=rfl
theorem ZrQ  : Za1 (.nilp)=false:=rfl
theorem Zqv (t:Nat) (o:Nat):Za1 (.ref t o)=false:=rfl
theorem Zng (t:Nat) (g:Nat) (i:Nat) (o:Nat):Za1 (.eref t g i o)=false:=rfl
theorem Zow (cs:List AVal) (o:Nat):Za1 (.iptr cs o)=false:=rfl
theorem Znk (x:Bool) (xs:List AVal):Za1 (.lst x xs)=false:=rfl
theorem ZkQ (t:Nat) (g:Nat) (lo:Nat) (n:Nat):Za1 (.sl t g lo n)=false:=rfl
theorem ZnW (cs:List AVal):Za1 (.agg cs)=false:=rfl
theorem Zqp (vs:List AVal):Za1 (.tup vs)=false:=rfl
theorem ZkF (f:Nat) (caps:List AVal):Za1 (.fn f caps)=false:=rfl
theorem Zta  : Za1 (.nilm)=false:=rfl
theorem ZlA (t:Nat):Za1 (.map t)=false:=rfl
theorem ZrE  : Za1 (.nili)=false:=rfl
theorem Zn3 (t:Nat) (x:AVal):Za1 (.iface t x)=false:=rfl
theorem Zn0 (x:AVal):Za1 (.pan x)=true:=rfl
theorem Zvb  : Z1 (.top)=false:=rfl
theorem ZtP  : Z1 (.any)=true:=rfl
theorem Zqz (k:IntKind) (n:Int):Z1 (.int k n)=true:=rfl
theorem ZoL (b:Bool):Z1 (.bool b)=true:=rfl
theorem ZuJ (l:List UInt8):Z1 (.str l)=true:=rfl
theorem Ztt  : Z1 (.nilp)=true:=rfl
theorem ZkU (t:Nat) (o:Nat):Z1 (.ref t o)=true:=rfl
theorem Zn7 (t:Nat) (g:Nat) (i:Nat) (o:Nat):Z1 (.eref t g i o)=true:=rfl
theorem Ztg (cs:List AVal) (o:Nat):Z1 (.iptr cs o)=true:=rfl
theorem ZsU (x:Bool) (xs:List AVal):Z1 (.lst x xs)=true:=rfl
theorem ZpE (t:Nat) (g:Nat) (lo:Nat) (n:Nat):Z1 (.sl t g lo n)=true:=rfl
theorem ZrO (cs:List AVal):Z1 (.agg cs)=false:=rfl
theorem Zsh (vs:List AVal):Z1 (.tup vs)=false:=rfl
theorem ZpW (f:Nat) (caps:List AVal):Z1 (.fn f caps)=true:=rfl
theorem Zlm  : Z1 (.nilm)=true:=rfl
theorem Zld (t:Nat):Z1 (.map t)=true:=rfl
theorem Zl8  : Z1 (.nili)=true:=rfl
theorem Zqf (t:Nat) (x:AVal):Z1 (.iface t x)=true:=rfl
theorem Zmd (x:AVal):Z1 (.pan x)=false:=rfl
theorem ZnR  : Zbi (.top)=false:=rfl
theorem Zoo  : Zbi (.any)=true:=rfl
theorem Zss (k:IntKind) (n:Int):Zbi (.int k n)=true:=rfl
theorem Zt7 (b:Bool):Zbi (.bool b)=true:=rfl
theorem Zpy (l:List UInt8):Zbi (.str l)=true:=rfl
theorem Znd  : Zbi (.nilp)=true:=rfl
theorem ZuO (t:Nat) (o:Nat):Zbi (.ref t o)=true:=rfl
theorem ZoK (t:Nat) (g:Nat) (i:Nat) (o:Nat):Zbi (.eref t g i o)=true:=rfl
theorem ZlI (cs:List AVal) (o:Nat):Zbi (.iptr cs o)=true:=rfl
theorem Zqu (x:Bool) (xs:List AVal):Zbi (.lst x xs)=true:=rfl
theorem Zl6 (t:Nat) (g:Nat) (lo:Nat) (n:Nat):Zbi (.sl t g lo n)=true:=rfl
theorem Zol (cs:List AVal):Zbi (.agg cs)=true:=rfl
theorem Zl3 (vs:List AVal):Zbi (.tup vs)=true:=rfl
theorem Zqi (f:Nat) (caps:List AVal):Zbi (.fn f caps)=true:=rfl
theorem Zna  : Zbi (.nilm)=true:=rfl
theorem ZuY (t:Nat):Zbi (.map t)=true:=rfl
theorem Zp5  : Zbi (.nili)=true:=rfl
theorem Zr9 (t:Nat) (x:AVal):Zbi (.iface t x)=true:=rfl
theorem Zus (x:AVal):Zbi (.pan x)=true:=rfl
theorem Zvj  : Za5 (.top)=false:=rfl
theorem ZqE  : Za5 (.any)=false:=rfl
theorem Zqg (k:IntKind) (n:Int):Za5 (.int k n)=true:=rfl
theorem Zum (b:Bool):Za5 (.bool b)=true:=rfl
theorem Zrv (l:List UInt8):Za5 (.str l)=true:=rfl
theorem ZnP  : Za5 (.nilp)=true:=rfl
theorem ZmJ (t:Nat) (o:Nat):Za5 (.ref t o)=false:=rfl
theorem Zpp (t:Nat) (g:Nat) (i:Nat) (o:Nat):Za5 (.eref t g i o)=false:=rfl
theorem Ztr (cs:List AVal) (o:Nat):Za5 (.iptr cs o)=false:=rfl
theorem Zli (x:Bool) (xs:List AVal):Za5 (.lst x xs)=false:=rfl
theorem Zk1 (t:Nat) (g:Nat) (lo:Nat) (n:Nat):Za5 (.sl t g lo n)=false:=rfl
theorem Zqj (cs:List AVal):Za5 (.agg cs)=false:=rfl
theorem ZmG (vs:List AVal):Za5 (.tup vs)=false:=rfl
theorem ZtS (f:Nat) (caps:List AVal):Za5 (.fn f caps)=false:=rfl
theorem ZsQ  : Za5 (.nilm)=true:=rfl
theorem Zr6 (t:Nat):Za5 (.map t)=false:=rfl
theorem Zri  : Za5 (.nili)=true:=rfl
theorem ZlG (t:Nat) (x:AVal):Za5 (.iface t x)=false:=rfl
theorem ZtX (x:AVal):Za5 (.pan x)=false:=rfl
theorem Ztm  : Zba (.top)=false:=rfl
theorem ZsH  : Zba (.any)=false:=rfl
theorem ZrT (k:IntKind) (n:Int):Zba (.int k n)=true:=rfl
theorem Zur (b:Bool):Zba (.bool b)=true:=rfl
theorem Zr8 (l:List UInt8):Zba (.str l)=true:=rfl
theorem ZoC  : Zba (.nilp)=true:=rfl
theorem ZlS (t:Nat) (o:Nat):Zba (.ref t o)=false:=rfl
theorem Zpf (t:Nat) (g:Nat) (i:Nat) (o:Nat):Zba (.eref t g i o)=false:=rfl
theorem Ztl (cs:List AVal) (o:Nat):Zba (.iptr cs o)=false:=rfl
theorem Zux (x:Bool) (xs:List AVal):Zba (.lst x xs)=false:=rfl
theorem ZlD (t:Nat) (g:Nat) (lo:Nat) (n:Nat):Zba (.sl t g lo n)=false:=rfl
theorem Zmt (cs:List AVal):Zba (.agg cs)=cs.all Za5:=rfl
theorem Zof (vs:List AVal):Zba (.tup vs)=false:=rfl
theorem ZqV (f:Nat) (caps:List AVal):Zba (.fn f caps)=false:=rfl
theorem Zqt  : Zba (.nilm)=true:=rfl
theorem Zvl (t:Nat):Zba (.map t)=false:=rfl
theorem Zvc  : Zba (.nili)=true:=rfl
theorem Zsu (t:Nat) (x:AVal):Zba (.iface t x)=false:=rfl
theorem ZpB (x:AVal):Zba (.pan x)=false:=rfl
theorem ZkW  : Zbg (.top)=false:=rfl
theorem Znf  : Zbg (.any)=false:=rfl
theorem ZmN (k:IntKind) (n:Int):Zbg (.int k n)=true:=rfl
theorem ZsE (b:Bool):Zbg (.bool b)=true:=rfl
theorem Zo6 (l:List UInt8):Zbg (.str l)=true:=rfl
theorem Zt6  : Zbg (.nilp)=true:=rfl
theorem ZrV (t:Nat) (o:Nat):Zbg (.ref t o)=false:=rfl
theorem Zua (t:Nat) (g:Nat) (i:Nat) (o:Nat):Zbg (.eref t g i o)=false:=rfl
theorem Zk3 (cs:List AVal) (o:Nat):Zbg (.iptr cs o)=false:=rfl
theorem ZtN (x:Bool) (xs:List AVal):Zbg (.lst x xs)=false:=rfl
theorem Zno (t:Nat) (g:Nat) (lo:Nat) (n:Nat):Zbg (.sl t g lo n)=false:=rfl
theorem Zs0 (cs:List AVal):Zbg (.agg cs)=cs.all Za5:=rfl
theorem Zrc (vs:List AVal):Zbg (.tup vs)=vs.all Zba:=rfl
theorem ZmC (f:Nat) (caps:List AVal):Zbg (.fn f caps)=false:=rfl
theorem Zvg  : Zbg (.nilm)=true:=rfl
theorem ZrG (t:Nat):Zbg (.map t)=false:=rfl
theorem Zpc  : Zbg (.nili)=true:=rfl
theorem Zt8 (t:Nat) (x:AVal):Zbg (.iface t x)=false:=rfl
theorem Zk8  : Zbb (.top)=false:=rfl
theorem ZrM  : Zbb (.any)=false:=rfl
theorem ZkI (k:IntKind) (n:Int):Zbb (.int k n)=true:=rfl
theorem ZkL (b:Bool):Zbb (.bool b)=true:=rfl
theorem ZpU (l:List UInt8):Zbb (.str l)=true:=rfl
theorem Znz  : Zbb (.nilp)=true:=rfl
theorem ZnQ (t:Nat) (o:Nat):Zbb (.ref t o)=false:=rfl
theorem Zpx (t:Nat) (g:Nat) (i:Nat) (o:Nat):Zbb (.eref t g i o)=false:=rfl
theorem ZtO (cs:List AVal) (o:Nat):Zbb (.iptr cs o)=false:=rfl
theorem Zt0 (x:Bool) (xs:List AVal):Zbb (.lst x xs)=true:=rfl
theorem Zqn (t:Nat) (g:Nat) (lo:Nat) (n:Nat):Zbb (.sl t g lo n)=false:=rfl
theorem ZoI (cs:List AVal):Zbb (.agg cs)=false:=rfl
theorem ZuQ (vs:List AVal):Zbb (.tup vs)=false:=rfl
theorem ZmH  : Zbb (.nilm)=true:=rfl
theorem ZqJ (t:Nat):Zbb (.map t)=false:=rfl
theorem Ztx  : Zbb (.nili)=true:=rfl
theorem ZlB (t:Nat) (x:AVal):Zbb (.iface t x)=false:=rfl
theorem Ztj (x:AVal):Zbb (.pan x)=false:=rfl
theorem ZsT  : ZaO (.top)=false:=rfl
theorem Zq8  : ZaO (.any)=false:=rfl
theorem Zmb (k:IntKind) (n:Int):ZaO (.int k n)=true:=rfl
theorem Zuj (b:Bool):ZaO (.bool b)=true:=rfl
theorem Zoh (l:List UInt8):ZaO (.str l)=true:=rfl
theorem Zty  : ZaO (.nilp)=true:=rfl
theorem Zu8 (t:Nat) (o:Nat):ZaO (.ref t o)=false:=rfl
theorem Zrw (t:Nat) (g:Nat) (i:Nat) (o:Nat):ZaO (.eref t g i o)=false:=rfl
theorem ZqD (cs:List AVal) (o:Nat):ZaO (.iptr cs o)=false:=rfl
theorem Zq1 (x:Bool) (xs:List AVal):ZaO (.lst x xs)=true:=rfl
theorem Zo2 (t:Nat) (g:Nat) (lo:Nat) (n:Nat):ZaO (.sl t g lo n)=false:=rfl
theorem Zts (cs:List AVal):ZaO (.agg cs)=cs.all Zbb:=rfl
theorem ZsX (vs:List AVal):ZaO (.tup vs)=false:=rfl
theorem ZkZ  : ZaO (.nilm)=true:=rfl
theorem Zl1 (t:Nat):ZaO (.map t)=false:=rfl
theorem Ztf  : ZaO (.nili)=true:=rfl
theorem Zl0 (t:Nat) (x:AVal):ZaO (.iface t x)=false:=rfl
theorem Zl7 (x:AVal):ZaO (.pan x)=false:=rfl
theorem ZoR  : ZaZ (.top)=(.top):=rfl
theorem Zn9  : ZaZ (.any)=(.any):=rfl
theorem ZpI (k:IntKind) (n:Int):ZaZ (.int k n)=(.int k n):=rfl
theorem Zmw (b:Bool):ZaZ (.bool b)=(.bool b):=rfl
theorem Zo4 (l:List UInt8):ZaZ (.str l)=(.str l):=rfl
theorem ZpY  : ZaZ (.nilp)=(.nilp):=rfl
theorem ZkE (t:Nat) (o:Nat):ZaZ (.ref t o)=(.ref t o):=rfl
theorem ZmD (t:Nat) (g:Nat) (i:Nat) (o:Nat):ZaZ (.eref t g i o)=(.eref t g i o):=rfl
theorem Zk6 (cs:List AVal) (o:Nat):ZaZ (.iptr cs o)=(.iptr cs o):=rfl
theorem ZmA (x:Bool) (xs:List AVal):ZaZ (.lst x xs)=.lst false xs:=rfl
theorem Zt3 (t:Nat) (g:Nat) (lo:Nat) (n:Nat):ZaZ (.sl t g lo n)=(.sl t g lo n):=rfl
theorem Zrb (cs:List AVal):ZaZ (.agg cs)=(.agg cs):=rfl
theorem ZmE (vs:List AVal):ZaZ (.tup vs)=(.tup vs):=rfl
theorem Zmp (f:Nat) (caps:List AVal):ZaZ (.fn f caps)=(.fn f caps):=rfl
theorem ZtL  : ZaZ (.nilm)=(.nilm):=rfl
theorem Zub (t:Nat):ZaZ (.map t)=(.map t):=rfl
theorem ZuN  : ZaZ (.nili)=(.nili):=rfl
theorem ZsP (t:Nat) (x:AVal):ZaZ (.iface t x)=(.iface t x):=rfl
theorem Zmk (x:AVal):ZaZ (.pan x)=(.pan x):=rfl
theorem ZuG  : Zal (.top)=(.top):=rfl
theorem ZpP  : Zal (.any)=(.any):=rfl
theorem Zq4 (k:IntKind) (n:Int):Zal (.int k n)=(.int k n):=rfl
theorem Znn (b:Bool):Zal (.bool b)=(.bool b):=rfl
theorem ZqB (l:List UInt8):Zal (.str l)=(.str l):=rfl
theorem Zt1  : Zal (.nilp)=(.nilp):=rfl
theorem ZlU (t:Nat) (o:Nat):Zal (.ref t o)=(.ref t o):=rfl
theorem Zsc (t:Nat) (g:Nat) (i:Nat) (o:Nat):Zal (.eref t g i o)=(.eref t g i o):=rfl
theorem ZsZ (cs:List AVal) (o:Nat):Zal (.iptr cs o)=(.iptr cs o):=rfl
theorem Zpa (x:Bool) (xs:List AVal):Zal (.lst x xs)=.lst false xs:=rfl
theorem Zok (t:Nat) (g:Nat) (lo:Nat) (n:Nat):Zal (.sl t g lo n)=(.sl t g lo n):=rfl
theorem ZqC (cs:List AVal):Zal (.agg cs)=.agg (cs.map ZaZ):=rfl
theorem Zsq (vs:List AVal):Zal (.tup vs)=(.tup vs):=rfl
theorem ZsI (f:Nat) (caps:List AVal):Zal (.fn f caps)=(.fn f caps):=rfl
theorem ZoE  : Zal (.nilm)=(.nilm):=rfl
theorem ZoD (t:Nat):Zal (.map t)=(.map t):=rfl
theorem ZpX  : Zal (.nili)=(.nili):=rfl
theorem Zp1 (t:Nat) (x:AVal):Zal (.iface t x)=(.iface t x):=rfl
theorem Zm0 (x:AVal):Zal (.pan x)=(.pan x):=rfl
theorem ZqU  : AVal.cells (.top)=[(.top)]:=rfl
theorem Zuy  : AVal.cells (.any)=[(.any)]:=rfl
theorem Zml (k:IntKind) (n:Int):AVal.cells (.int k n)=[(.int k n)]:=rfl
theorem Zpe (b:Bool):AVal.cells (.bool b)=[(.bool b)]:=rfl
theorem Zuf (l:List UInt8):AVal.cells (.str l)=[(.str l)]:=rfl
theorem ZlW  : AVal.cells (.nilp)=[(.nilp)]:=rfl
theorem Zqx (t:Nat) (o:Nat):AVal.cells (.ref t o)=[(.ref t o)]:=rfl
theorem Zrh (t:Nat) (g:Nat) (i:Nat) (o:Nat):AVal.cells (.eref t g i o)=[(.eref t g i o)]:=rfl
theorem Zsw (cs:List AVal) (o:Nat):AVal.cells (.iptr cs o)=[(.iptr cs o)]:=rfl
theorem ZqA (x:Bool) (xs:List AVal):AVal.cells (.lst x xs)=[(.lst x xs)]:=rfl
theorem ZoG (t:Nat) (g:Nat) (lo:Nat) (n:Nat):AVal.cells (.sl t g lo n)=[(.sl t g lo n)]:=rfl
theorem Zlc (cs:List AVal):AVal.cells (.agg cs)=cs:=rfl
theorem ZuK (vs:List AVal):AVal.cells (.tup vs)=[(.tup vs)]:=rfl
theorem ZtA (f:Nat) (caps:List AVal):AVal.cells (.fn f caps)=[(.fn f caps)]:=rfl
theorem ZmY  : AVal.cells (.nilm)=[(.nilm)]:=rfl
theorem Zq6 (t:Nat):AVal.cells (.map t)=[(.map t)]:=rfl
theorem Zmx  : AVal.cells (.nili)=[(.nili)]:=rfl
theorem ZlR (t:Nat) (x:AVal):AVal.cells (.iface t x)=[(.iface t x)]:=rfl
theorem ZmX (x:AVal):AVal.cells (.pan x)=[(.pan x)]:=rfl
theorem ZnX  : ZaN (.top)=(.top):=rfl
theorem Zk2  : ZaN (.any)=(.any):=rfl
theorem ZqG (k:IntKind) (n:Int):ZaN (.int k n)=(.int k n):=rfl
theorem Zqk (b:Bool):ZaN (.bool b)=(.bool b):=rfl
theorem Znb (l:List UInt8):ZaN (.str l)=(.str l):=rfl
theorem ZsJ  : ZaN (.nilp)=(.nilp):=rfl
theorem Zo7 (t:Nat) (o:Nat):ZaN (.ref t o)=(.ref t o):=rfl
theorem Zm5 (t:Nat) (g:Nat) (i:Nat) (o:Nat):ZaN (.eref t g i o)=(.eref t g i o):=rfl
theorem ZpA (cs:List AVal) (o:Nat):ZaN (.iptr cs o)=(.iptr cs o):=rfl
theorem Zoa (x:Bool) (xs:List AVal):ZaN (.lst x xs)=(.lst x xs):=rfl
theorem ZkG (t:Nat) (g:Nat) (lo:Nat) (n:Nat):ZaN (.sl t g lo n)=(.sl t g lo n):=rfl
theorem Zo3 (cs:List AVal):ZaN (.agg cs)=(.agg cs):=rfl
theorem Zlg (vs:List AVal):ZaN (.tup vs)=(.tup vs):=rfl
theorem ZnB (f:Nat) (caps:List AVal):ZaN (.fn f caps)=(.fn f caps):=rfl
theorem ZrS  : ZaN (.nilm)=(.nilm):=rfl
theorem ZoJ (t:Nat):ZaN (.map t)=(.map t):=rfl
theorem ZsM  : ZaN (.nili)=(.nili):=rfl
theorem Zsv (t:Nat) (x:AVal):ZaN (.iface t x)=(.iface t x):=rfl
theorem ZqS (x:AVal):ZaN (.pan x)=x:=rfl
theorem Zlu  : ZaW (.top)=4:=rfl
theorem Zsx  : ZaW (.any)=4:=rfl
theorem Zoj (k:IntKind) (n:Int):ZaW (.int k n)=0:=rfl
theorem ZmB (b:Bool):ZaW (.bool b)=1:=rfl
theorem Zmy (l:List UInt8):ZaW (.str l)=2:=rfl
theorem Zox  : ZaW (.nilp)=4:=rfl
theorem ZtD (t:Nat) (o:Nat):ZaW (.ref t o)=4:=rfl
theorem Zp6 (t:Nat) (g:Nat) (i:Nat) (o:Nat):ZaW (.eref t g i o)=4:=rfl
theorem Znq (cs:List AVal) (o:Nat):ZaW (.iptr cs o)=4:=rfl
theorem Zny (x:Bool) (xs:List AVal):ZaW (.lst x xs)=4:=rfl
theorem ZlJ (t:Nat) (g:Nat) (lo:Nat) (n:Nat):ZaW (.sl t g lo n)=4:=rfl
theorem Zr5 (cs:List AVal):ZaW (.agg cs)=4:=rfl
theorem Zm6 (vs:List AVal):ZaW (.tup vs)=4:=rfl
theorem ZlL (f:Nat) (caps:List AVal):ZaW (.fn f caps)=4:=rfl
theorem ZuR  : ZaW (.nilm)=4:=rfl
theorem Zpj (t:Nat):ZaW (.map t)=4:=rfl
theorem ZsL  : ZaW (.nili)=4:=rfl
theorem Zu9 (t:Nat) (x:AVal):ZaW (.iface t x)=4:=rfl
theorem Zvm (x:AVal):ZaW (.pan x)=4:=rfl
theorem ZnE  : Z6 (.top)=[]:=rfl
theorem ZpV  : Z6 (.any)=[]:=rfl
theorem Zl2 (k:IntKind) (n:Int):Z6 (.int k n)=[]:=rfl
theorem Znt (b:Bool):Z6 (.bool b)=[]:=rfl
theorem Zo5 (l:List UInt8):Z6 (.str l)=[]:=rfl
theorem Zsi  : Z6 (.nilp)=[]:=rfl
theorem Zun (t:Nat) (o:Nat):Z6 (.ref t o)=[t]:=rfl
theorem ZmZ (t:Nat) (g:Nat) (i:Nat) (o:Nat):Z6 (.eref t g i o)=[t]:=rfl
theorem ZkV (cs:List AVal) (o:Nat):Z6 (.iptr cs o)=[]:=rfl
theorem Zos (x:Bool) (xs:List AVal):Z6 (.lst x xs)=[]:=rfl
theorem Zu5 (t:Nat) (g:Nat) (lo:Nat) (n:Nat):Z6 (.sl t g lo n)=[t]:=rfl
theorem ZoQ (cs:List AVal):Z6 (.agg cs)=ZZ cs:=rfl
theorem ZuF (vs:List AVal):Z6 (.tup vs)=ZZ vs:=rfl
theorem Zrf (f:Nat) (caps:List AVal):Z6 (.fn f caps)=ZZ caps:=rfl
theorem ZtW  : Z6 (.nilm)=[]:=rfl
theorem ZkY (t:Nat):Z6 (.map t)=[t]:=rfl
theorem Zm8  : Z6 (.nili)=[]:=rfl
theorem Zui (t:Nat) (x:AVal):Z6 (.iface t x)=Z6 x:=rfl
theorem Zm4 (x:AVal):Z6 (.pan x)=Z6 x:=rfl
theorem Zvf  : Zs ρ (.top)=(.top):=rfl
theorem ZlC  : Zs ρ (.any)=(.any):=rfl
theorem Zqs (k:IntKind) (n:Int):Zs ρ (.int k n)=(.int k n):=rfl
theorem Zp4 (b:Bool):Zs ρ (.bool b)=(.bool b):=rfl
theorem Zvn (l:List UInt8):Zs ρ (.str l)=(.str l):=rfl
theorem ZkK  : Zs ρ (.nilp)=(.nilp):=rfl
theorem Zsp (cs:List AVal) (o:Nat):Zs ρ (.iptr cs o)=(.iptr cs o):=rfl
theorem ZrC (x:Bool) (xs:List AVal):Zs ρ (.lst x xs)=(.lst x xs):=rfl
theorem ZqZ (cs:List AVal):Zs ρ (.agg cs)=.agg (ZW ρ cs):=rfl
theorem ZtB (vs:List AVal):Zs ρ (.tup vs)=.tup (ZW ρ vs):=rfl
theorem Zvd (f:Nat) (caps:List AVal):Zs ρ (.fn f caps)=.fn f (ZW ρ caps):=rfl
theorem Zn4  : Zs ρ (.nilm)=(.nilm):=rfl
theorem ZoO  : Zs ρ (.nili)=(.nili):=rfl
theorem Zpn (t:Nat) (x:AVal):Zs ρ (.iface t x)=.iface t (Zs ρ x):=rfl
theorem ZpL (x:AVal):Zs ρ (.pan x)=.pan (Zs ρ x):=rfl
theorem Zt9 (f:Nat):Zbb (.fn f [])=true:=rfl
theorem ZoV (f:Nat):ZaO (.fn f [])=true:=rfl
theorem Zvh (t:Nat) (x:AVal):Zbg (.pan (.iface t x))=Za5 x:=rfl
theorem ZqM (live:List Nat) (tm:Tms):ZiU live (some (tm,σ,none))=some (.normal,keepL live tm,σ):=rfl
theorem ZkX (live:List Nat) (tm:Tms) (x:AVal):ZiU live (some (tm,σ,some x))=some (.panic x,[],σ):=rfl
theorem Zvk (live:List Nat):ZiU live none=none:=rfl
theorem Zry (t o:Nat):Zs ρ (.ref t o)=(match ρ t 0 with | some (t',0)=>.ref t' o | _=>.any):=rfl
theorem Zsa (t:Nat):Zs ρ (.map t)=(match ρ t 0 with | some (t',0)=>.map t' | _=>.any):=rfl
theorem ZoF (t g lo n:Nat):Zs ρ (.sl t g lo n)=(match ρ t g with | some (t',g')=>.sl t' g' lo n | none=>.any):=rfl
theorem ZqH (t g i o:Nat):Zs ρ (.eref t g i o)=(match ρ t g with | some (t',g')=>.eref t' g' i o | none=>.any):=rfl
theorem Zuk:ZZ []=[]:=rfl
theorem Zq9 (x:AVal) (xs:List AVal):ZZ (x::xs)=Z6 x++ZZ xs:=rfl
theorem Zrt:ZW ρ []=[]:=rfl
theorem Zs5 (x:AVal) (xs:List AVal):ZW ρ (x::xs)=Zs ρ x::ZW ρ xs:=rfl
end
end
section
mutual
def Za6:AVal->Bool
 | .ref _ _=>false
 | .eref _ _ _ _=>false
 | .sl _ _ _ _=>false
 | .map _=>false
 | .agg cs=>Zy cs
 | .tup vs=>Zy vs
 | .fn _ vs=>Zy vs
 | .iface _ x=>Za6 x
 | .pan x=>Za6 x
 | .top=>true
 | .any=>true
 | .int _ _=>true
 | .bool _=>true
 | .str _=>true
 | .nilp=>true
 | .nilm=>true
 | .nili=>true
 | .iptr _ _=>true
 | .lst _ _=>true
def Zy:List AVal->Bool
 | []=>true
 | x::xs=>Za6 x && Zy xs
end
mutual
theorem Zig (ρ:Rho):∀ (x:AVal),Za6 x=true->Zs ρ x=x/\Z6 x=[]
 | .ref _ _,h=>by simp [Za6] at h
 | .eref _ _ _ _,h=>by simp [Za6] at h
 | .sl _ _ _ _,h=>by simp [Za6] at h
 | .map _,h=>by simp [Za6] at h
 | .agg cs,h=>by have:=Zh2 ρ cs (by simpa only [Za6] using h);exact ⟨by simp only [Zs,this.1],by simp only [Z6,this.2]⟩
 | .tup cs,h=>by have:=Zh2 ρ cs (by simpa only [Za6] using h);exact ⟨by simp only [Zs,this.1],by simp only [Z6,this.2]⟩
 | .fn f cs,h=>by have:=Zh2 ρ cs (by simpa only [Za6] using h);exact ⟨by simp only [Zs,this.1],by simp only [Z6,this.2]⟩
 | .iface t x,h=>by have:=Zig ρ x (by simpa only [Za6] using h);exact ⟨by simp only [Zs,this.1],by simp only [Z6,this.2]⟩
 | .pan x,h=>by have:=Zig ρ x (by simpa only [Za6] using h);exact ⟨by simp only [Zs,this.1],by simp only [Z6,this.2]⟩
 | .top,_=>⟨rfl,rfl⟩
 | .any,_=>⟨rfl,rfl⟩
 | .int _ _,_=>⟨rfl,rfl⟩
 | .bool _,_=>⟨rfl,rfl⟩
 | .str _,_=>⟨rfl,rfl⟩
 | .nilp,_=>⟨rfl,rfl⟩
 | .nilm,_=>⟨rfl,rfl⟩
 | .nili,_=>⟨rfl,rfl⟩
 | .iptr _ _,_=>⟨rfl,rfl⟩
 | .lst _ _,_=>⟨rfl,rfl⟩
theorem Zh2 (ρ:Rho):∀ (xs:List AVal),Zy xs=true->ZW ρ xs=xs/\ZZ xs=[]
 | [],_=>⟨rfl,rfl⟩
 | x::xs,h=>by
  simp only [Zy,Xt] at h
  have h1:=Zig ρ x h.1
  have h2:=Zh2 ρ xs h.2
  exact ⟨by simp only [ZW,h1.1,h2.1],by simp only [ZZ,h1.2,h2.2,X2]⟩
end
theorem ZjS {σ:Za} {r:AVal} (h:Za6 r=true):Zay 0 σ r=some (r,[]):=by
 have h1:=Zig (Zd σ 0 []) r h
 have hids:Zm 0 [r] σ=[]:=by
  unfold Zm
  simp only [ZZ,h1.2,X2,List.range_zero,List.flatMap_nil]
  rfl
 unfold Zay gcA
 simp only [hids,ZW,Ze,h1.1]
def ZcT:AVal->AVal
 | .tup vs=>.tup (vs.map Zal)
 | x=>Zal x
def ZcP:AVal->Bool
 | .tup vs=>vs.all ZaO
 | x=>ZaO x
def Zb2:AVal->Bool
 | .fn _ _=>false
 | _=>true
def Zcn:AVal->Bool
 | .agg cs=>cs.all Zb2
 | x=>Zb2 x
def Zc0:AVal->Bool
 | .tup vs=>vs.all Zcn
 | x=>Zcn x
theorem Zif {k g n:Nat} {xs:List AVal} {σ:Za} {t:Nat} (hs:σ[t]?=some (.row g k xs)) (hn:n<=xs.length):ZcO 0 (some (.sl t g 0 n,σ))=some (.lst false (xs.take n),[]):=by
 have hv:viewR σ (.sl t g 0 n)=some (.lst false (xs.take n),[t]):=by
  simp only [viewR,Zao,Zad,Zo,hs,XK,hn,and_self,if_true,List.drop_zero]
 have e:ZcO 0 (some (.sl t g 0 n,σ))=(match viewR σ (.sl t g 0 n) with
  | some (r',ts)=>match gcA 0 [r'] (ZV σ ts) with
   | ([r''],σ')=>some (r'',σ')
   | _=>none
  | none=>none):=rfl
 rw [e,hv]
 exact ZjS rfl
theorem Ztc {m:Nat} {fn:Zam} {tm:Tms} {σ:Za}:Za4 m fn (some (.ret,tm,σ))=match resA tm σ fn.res with
  | some r=>Zay m σ r
  | none=>none:=rfl
theorem Ztn {m:Nat} {fn:Zam} {tm:Tms} {σ:Za}:Za4 m fn (some (.normal,tm,σ))=match resA tm σ fn.res with
  | some r=>Zay m σ r
  | none=>none:=rfl
theorem Zud {m:Nat} {fn:Zam} {tm:Tms} {σ:Za} {x:AVal}:Za4 m fn (some (.panic x,tm,σ))=Zay m σ (.pan x):=rfl
theorem Znw  : Za6 (.top)=true:=rfl
theorem Ztk  : Za6 (.any)=true:=rfl
theorem Zp2 (k:IntKind) (n:Int):Za6 (.int k n)=true:=rfl
theorem Zrz (b:Bool):Za6 (.bool b)=true:=rfl
theorem Zlx (l:List UInt8):Za6 (.str l)=true:=rfl
theorem ZqK  : Za6 (.nilp)=true:=rfl
theorem ZmL (t:Nat) (o:Nat):Za6 (.ref t o)=false:=rfl
theorem ZrN (t:Nat) (g:Nat) (i:Nat) (o:Nat):Za6 (.eref t g i o)=false:=rfl
theorem Zvp (cs:List AVal) (o:Nat):Za6 (.iptr cs o)=true:=rfl
theorem ZmT (x:Bool) (xs:List AVal):Za6 (.lst x xs)=true:=rfl
theorem Zpi (t:Nat) (g:Nat) (lo:Nat) (n:Nat):Za6 (.sl t g lo n)=false:=rfl
theorem Zo1 (cs:List AVal):Za6 (.agg cs)=Zy cs:=rfl
theorem Zpz (vs:List AVal):Za6 (.tup vs)=Zy vs:=rfl
theorem Znv (f:Nat) (caps:List AVal):Za6 (.fn f caps)=Zy caps:=rfl
theorem ZmF  : Za6 (.nilm)=true:=rfl
theorem Znj (t:Nat):Za6 (.map t)=false:=rfl
theorem Zls  : Za6 (.nili)=true:=rfl
theorem Zs8 (t:Nat) (x:AVal):Za6 (.iface t x)=Za6 x:=rfl
theorem Zl5 (x:AVal):Za6 (.pan x)=Za6 x:=rfl
theorem Zsd  : Zb2 (.top)=true:=rfl
theorem Zmc  : Zb2 (.any)=true:=rfl
theorem Zpg (k:IntKind) (n:Int):Zb2 (.int k n)=true:=rfl
theorem ZmU (b:Bool):Zb2 (.bool b)=true:=rfl
theorem Zr0 (l:List UInt8):Zb2 (.str l)=true:=rfl
theorem Zl4  : Zb2 (.nilp)=true:=rfl
theorem ZkM (t:Nat) (o:Nat):Zb2 (.ref t o)=true:=rfl
theorem Znh (t:Nat) (g:Nat) (i:Nat) (o:Nat):Zb2 (.eref t g i o)=true:=rfl
theorem Zs2 (cs:List AVal) (o:Nat):Zb2 (.iptr cs o)=true:=rfl
theorem Zme (x:Bool) (xs:List AVal):Zb2 (.lst x xs)=true:=rfl
theorem ZtQ (t:Nat) (g:Nat) (lo:Nat) (n:Nat):Zb2 (.sl t g lo n)=true:=rfl
theorem Ztd (cs:List AVal):Zb2 (.agg cs)=true:=rfl
theorem ZtC (vs:List AVal):Zb2 (.tup vs)=true:=rfl
theorem Zk9 (f:Nat) (caps:List AVal):Zb2 (.fn f caps)=false:=rfl
theorem Zl9  : Zb2 (.nilm)=true:=rfl
theorem Zr4 (t:Nat):Zb2 (.map t)=true:=rfl
theorem ZoZ  : Zb2 (.nili)=true:=rfl
theorem Ztu (t:Nat) (x:AVal):Zb2 (.iface t x)=true:=rfl
theorem Zt2 (x:AVal):Zb2 (.pan x)=true:=rfl
theorem Zti  : Zcn (.top)=true:=rfl
theorem ZpD  : Zcn (.any)=true:=rfl
theorem ZmO (k:IntKind) (n:Int):Zcn (.int k n)=true:=rfl
theorem Zs4 (b:Bool):Zcn (.bool b)=true:=rfl
theorem Zpu (l:List UInt8):Zcn (.str l)=true:=rfl
theorem ZnF  : Zcn (.nilp)=true:=rfl
theorem Zln (t:Nat) (o:Nat):Zcn (.ref t o)=true:=rfl
theorem Zmm (t:Nat) (g:Nat) (i:Nat) (o:Nat):Zcn (.eref t g i o)=true:=rfl
theorem ZqQ (cs:List AVal) (o:Nat):Zcn (.iptr cs o)=true:=rfl
theorem Zqw (x:Bool) (xs:List AVal):Zcn (.lst x xs)=true:=rfl
theorem Zms (t:Nat) (g:Nat) (lo:Nat) (n:Nat):Zcn (.sl t g lo n)=true:=rfl
theorem Zs3 (cs:List AVal):Zcn (.agg cs)=cs.all Zb2:=rfl
theorem Zop (vs:List AVal):Zcn (.tup vs)=true:=rfl
theorem ZuX (f:Nat) (caps:List AVal):Zcn (.fn f caps)=false:=rfl
theorem ZoN  : Zcn (.nilm)=true:=rfl
theorem ZnG (t:Nat):Zcn (.map t)=true:=rfl
theorem Zom  : Zcn (.nili)=true:=rfl
theorem Zo8 (t:Nat) (x:AVal):Zcn (.iface t x)=true:=rfl
theorem ZmQ (x:AVal):Zcn (.pan x)=true:=rfl
theorem ZoM  : Zc0 (.top)=true:=rfl
theorem ZqP  : Zc0 (.any)=true:=rfl
theorem ZrZ (k:IntKind) (n:Int):Zc0 (.int k n)=true:=rfl
theorem ZlP (b:Bool):Zc0 (.bool b)=true:=rfl
theorem Zoc (l:List UInt8):Zc0 (.str l)=true:=rfl
theorem Zpw  : Zc0 (.nilp)=true:=rfl
theorem Zm7 (t:Nat) (o:Nat):Zc0 (.ref t o)=true:=rfl
theorem Zue (t:Nat) (g:Nat) (i:Nat) (o:Nat):Zc0 (.eref t g i o)=true:=rfl
theorem ZtR (cs:List AVal) (o:Nat):Zc0 (.iptr cs o)=true:=rfl
theorem Zqo (x:Bool) (xs:List AVal):Zc0 (.lst x xs)=true:=rfl
theorem Zo0 (t:Nat) (g:Nat) (lo:Nat) (n:Nat):Zc0 (.sl t g lo n)=true:=rfl
theorem ZnL (cs:List AVal):Zc0 (.agg cs)=cs.all Zb2:=rfl
theorem ZrY (vs:List AVal):Zc0 (.tup vs)=vs.all Zcn:=rfl
theorem ZlH (f:Nat) (caps:List AVal):Zc0 (.fn f caps)=false:=rfl
theorem Zsn  : Zc0 (.nilm)=true:=rfl
theorem Zpt (t:Nat):Zc0 (.map t)=true:=rfl
theorem Zn6  : Zc0 (.nili)=true:=rfl
theorem ZrH (t:Nat) (x:AVal):Zc0 (.iface t x)=true:=rfl
theorem ZoW (x:AVal):Zc0 (.pan x)=true:=rfl
theorem Zmn  : ZcP (.top)=false:=rfl
theorem Zr3  : ZcP (.any)=false:=rfl
theorem ZlK (k:IntKind) (n:Int):ZcP (.int k n)=true:=rfl
theorem ZoP (b:Bool):ZcP (.bool b)=true:=rfl
theorem Zuo (l:List UInt8):ZcP (.str l)=true:=rfl
theorem Zqy  : ZcP (.nilp)=true:=rfl
theorem Zr1 (t:Nat) (o:Nat):ZcP (.ref t o)=false:=rfl
theorem ZlX (t:Nat) (g:Nat) (i:Nat) (o:Nat):ZcP (.eref t g i o)=false:=rfl
theorem Zqa (cs:List AVal) (o:Nat):ZcP (.iptr cs o)=false:=rfl
theorem ZqO (x:Bool) (xs:List AVal):ZcP (.lst x xs)=true:=rfl
theorem Zlb (t:Nat) (g:Nat) (lo:Nat) (n:Nat):ZcP (.sl t g lo n)=false:=rfl
theorem Zsb (cs:List AVal):ZcP (.agg cs)=cs.all Zbb:=rfl
theorem Zq5 (vs:List AVal):ZcP (.tup vs)=vs.all ZaO:=rfl
theorem ZrB  : ZcP (.nilm)=true:=rfl
theorem Zru (t:Nat):ZcP (.map t)=false:=rfl
theorem ZtI  : ZcP (.nili)=true:=rfl
theorem ZkT (t:Nat) (x:AVal):ZcP (.iface t x)=false:=rfl
theorem ZrW (x:AVal):ZcP (.pan x)=false:=rfl
theorem Zs9  : ZcT (.top)=(.top):=rfl
theorem Zsy  : ZcT (.any)=(.any):=rfl
theorem ZpF (k:IntKind) (n:Int):ZcT (.int k n)=(.int k n):=rfl
theorem Zph (b:Bool):ZcT (.bool b)=(.bool b):=rfl
theorem ZtU (l:List UInt8):ZcT (.str l)=(.str l):=rfl
theorem Zp0  : ZcT (.nilp)=(.nilp):=rfl
theorem Zpq (t:Nat) (o:Nat):ZcT (.ref t o)=(.ref t o):=rfl
theorem Zpk (t:Nat) (g:Nat) (i:Nat) (o:Nat):ZcT (.eref t g i o)=(.eref t g i o):=rfl
theorem Zog (cs:List AVal) (o:Nat):ZcT (.iptr cs o)=(.iptr cs o):=rfl
theorem ZuW (x:Bool) (xs:List AVal):ZcT (.lst x xs)=.lst false xs:=rfl
theorem Zmu (t:Nat) (g:Nat) (lo:Nat) (n:Nat):ZcT (.sl t g lo n)=(.sl t g lo n):=rfl
theorem ZtE (cs:List AVal):ZcT (.agg cs)=.agg (cs.map ZaZ):=rfl
theorem Zpd (vs:List AVal):ZcT (.tup vs)=.tup (vs.map Zal):=rfl
theorem ZtZ (f:Nat) (caps:List AVal):ZcT (.fn f caps)=(.fn f caps):=rfl
theorem ZrR  : ZcT (.nilm)=(.nilm):=rfl
theorem Zth (t:Nat):ZcT (.map t)=(.map t):=rfl
theorem Zu7  : ZcT (.nili)=(.nili):=rfl
theorem ZkJ (t:Nat) (x:AVal):ZcT (.iface t x)=(.iface t x):=rfl
theorem Zuv (x:AVal):ZcT (.pan x)=(.pan x):=rfl
theorem Zva:Zy []=true:=rfl
theorem Zmq (x:AVal) (xs:List AVal):Zy (x::xs)=(Za6 x && Zy xs):=rfl
theorem Zpo (f:Nat):ZcP (.fn f [])=true:=rfl
theorem ZmW (p q:Bool):(if p=true then q else false)=(p && q):=by cases p <;> rfl
theorem Znc (p q:Bool):(if p=true then true else q)=(p || q):=by cases p <;> rfl
theorem Zov (p q:Bool):(if p=true then false else q)=(!p && q):=by cases p <;> rfl
theorem Zm1 (p q:Bool):(if p=true then q else true)=(!p || q):=by cases p <;> rfl
theorem Zrd (p q:Bool):(if p=false then q else false)=(!p && q):=by cases p <;> rfl
theorem ZuD (p q:Bool):(if p=false then true else q)=(!p || q):=by cases p <;> rfl
theorem Zp9 (p q:Bool):(if p=false then false else q)=(p && q):=by cases p <;> rfl
theorem ZsW (p q:Bool):(if p=false then q else true)=(p || q):=by cases p <;> rfl
section
def ZeC (o:AOp):AOp:=⟨o.dst,o.ins,o.guard,[]⟩
def ZcH:Zv->Zv
 | .region ops chk live=>.region (ops.map ZeC) chk live
 | .seq a b=>.seq (ZcH a) (ZcH b)
 | .cond c a b=>.cond c (ZcH a) (ZcH b)
 | .block id c=>.block id (ZcH c)
 | .loop live c=>.loop live (ZcH c)
 | .skip=>.skip
 | .exit id=>.exit id
 | .ret=>.ret
 | .stuck=>.stuck
def Zjw (f:Zam):Zam:=⟨f.res,ZcH f.body⟩
section
variable {O:Z7} {bf:Nat->Bool}
theorem ZBv (o:AOp) (s:Nat) (tm:Tms) (σ:Za):Z0 O bf (ZeC o) s tm σ=Z0 O bf o s tm σ:=rfl
theorem Zys:∀ (ops:List AOp) (s:Nat) (tm:Tms) (σ:Za),Z8 O bf (ops.map ZeC) s tm σ=Z8 O bf ops s tm σ
 | [],_,_,_=>rfl
 | o::os,s,tm,σ=>by
  simp only [Xw,Z8,ZBv]
  split
  ·rfl
  ·rfl
  ·rename_i tm' σ' c _ _
   rw [show (ZeC o).ins=o.ins from rfl,Zys os]
theorem Zmh (ops:List AOp):sitesOf (ops.map ZeC)=sitesOf ops:=by
 simp [sitesOf,ZeC,Function.comp_def]
theorem Zj2 (ops:List AOp) (i:Nat):((ops.map ZeC).getD i default).ins=(ops.getD i default).ins:=by
 simp only [Xn,XY]
 cases ops[i]? <;> rfl
theorem ZFC (ops:List AOp) (b:Nat) (l:List (Nat×Nat)) (cs:List Cls):ZdT (ops.map ZeC) b l cs=ZdT ops b l cs:=by
 unfold ZdT
 congr 1
 funext p
 unfold Zc8 ZcM
 rw [Zj2,Zj2,<-Xbt,Zmh]
theorem ZC2 (ops:List AOp) (b:Nat) (l:List (Nat×Nat)) (cs:List Cls):Zav (ops.map ZeC) b l cs=Zav ops b l cs:=by
 unfold Zav
 congr 2
 funext p
 unfold Zc8 ZcM
 rw [Zj2,Zj2,<-Xbt,Zmh]
theorem ZEc (ops:List AOp) (chk:Option (List (Nat×Nat))) (live:List Nat) (tm:Tms) (σ:Za):Zcr O bf (ops.map ZeC) chk live tm σ=Zcr O bf ops chk live tm σ:=by
 unfold Zcr
 rw [Zys,Zmh]
 cases Z8 O bf ops σ.length tm (σ++Xr (sitesOf ops) .free) with
 | none=>rfl
 | some q =>
  obtain ⟨tm',σ',cs,p⟩:=q
  cases p with
  | some x =>
   cases chk with
   | none=>rfl
   | some l=>simp only [Zdu,ZC2]
  | none =>
   cases chk with
   | none=>rfl
   | some l=>simp only [Zdu,ZFC]
theorem ZeI (m n:Nat):∀ (c:Zv),Zab O bf m n (ZcH c)=Zab O bf m n c
 | .region ops chk live=>by funext tm σ;simp only [ZcH,Zab,ZEc]
 | .seq a b=>by funext tm σ;simp only [ZcH,Zab,ZeI m n a,ZeI m n b]
 | .cond c a b=>by funext tm σ;simp only [ZcH,Zab,ZeI m n a,ZeI m n b]
 | .block id c=>by funext tm σ;simp only [ZcH,Zab,ZeI m n c]
 | .loop live c=>by funext tm σ;simp only [ZcH,Zab,ZeI m n c]
 | .skip=>rfl
 | .exit id=>rfl
 | .ret=>rfl
 | .stuck=>rfl
end
theorem ZuA (fs:Nat->Option Zam) (prim:Zbz) (bf:Nat->Bool):∀ n,ZaB (fun f=>(fs f).map Zjw) prim bf n=ZaB fs prim bf n
 | 0=>rfl
 | n+1=>by
  funext f args σ
  simp only [ZaB,ZuA fs prim bf n]
  cases prim f with
  | some g=>rfl
  | none =>
   cases fs f with
   | none=>rfl
   | some fn =>
    simp only [X4,Zjw,ZeI]
    rfl
theorem Zzc (fs:Nat->Option Zam) (prim:Zbz) (bf:Nat->Bool):EV (fun f=>(fs f).map Zjw) prim bf=EV fs prim bf:=by
 funext f args σ
 apply ZeZ
 intro r
 rw [ZdA,ZdA]
 simp only [ZuA]
end
end
section
open Go.RowKit
def ZhJ:List AVal->Za->Option (AVal×Za):=fun _ _=>none
theorem ZyK {α:Prop} {args:List AVal} {σ:Za} {r:AVal×Za} (h:ZhJ args σ=some r):α:=by cases h
def Zfz (k bytes:Nat) (args:List AVal) (σ:Za):Option (AVal×Za):=match args with
 | [.str _]=>none
 | [a]=>match Zo σ a with
  | some (xs,_)=>if xs.length*bytes<=140737488355328/\kOk k xs=true then some (.sl σ.length 0 0 xs.length,σ++[.row 0 k xs]) else none
  | none=>none
 | _=>none
def ZeJ:Ann:={ nt:=8,lr:=fun _=>[7,6,5,4,3,2,0] }
structure ZkH (P:Program) (t:TypeId) (k bytes:Nat) (z:AVal) (f:FuncId):Prop where
 ex:∃ (F:Func) (e:TypeId) (i0 i1 i2 i3:Nat) (r0 r2 r3:Array Oper) (m b:Oper),
  P.funcs[f]?=some F/\F.results=#[.tmp 2]/\F.ntmps=8/\(F.name == "runtime.NumGoroutine")=false/\P.underlying t=some (.slice e) /\
  F.body=some (.seq (.region i0 r0 false) (.seq (.seq (.region i1 #[m,b] false) (.cond (.tmp 4) (.seq (.region i2 r2 false) .ret) .skip)) (.seq (.region i3 r3 false) .ret))) /\
  m.op=.move (.tmp 0)/\m.dst=some 3/\m.guard=none/\b.op=.binOp .eql t (.tmp 3) (.const (.slice none 0 0)) t/\b.dst=some 4/\b.guard=none /\
  ZcY P ZeJ r0 r0.toList=some [⟨some 2,.mov (.c (.lst true [])),none,[]⟩] /\
  ZcY P ZeJ r2 r2.toList=some [⟨some 2,.mov (.c (.lst true [])),none,[]⟩] /\
  (∃ a1 a2 a3 a4,ZcY P ZeJ r3 r3.toList=some [⟨some 5,.bslice false k 0 z [],none,a1⟩,⟨some 6,.mov (.t 0),none,a2⟩,⟨some 7,.app k bytes z (.t 5) (.t 6),none,a3⟩,⟨some 2,.mov (.t 7),none,a4⟩])/\z.cells.length=k/\0 < k
section
variable {P:Program} {base:Nat->Prop} {w0 w w':World} {I0 I:Imm} {β:Bmap} {σ:Za}
theorem noO:ZaF P (fun _ _ _=>none):=by intro f args σ r σ' h;cases h
theorem Zgp {ops:Array Oper} {Q:Exit->Act->World->Prop} {o:Oper} {l:List Oper} {a:Act} {w:World} (hg:o.guard=none) (h:o.wp P a w (wpList P ops Q l) Q):wpList P ops Q (o::l) a w:=by
 unfold wpList
 have : Region.wanted o (yielded ops a.tmps)=true:=by unfold Region.wanted;rw [hg]
 rw [this]
 simp only [if_true]
 exact XH h
theorem ZxR {t : TypeId} {k bytes : Nat} {z : AVal} {f : FuncId} (hm : P.follows .mixedOrders = true) (C : ZkH P t k bytes z f) {args : List AVal} {σ σ' : Za} {r : AVal} (h : Zfz k bytes args σ = some (r, σ')) :
    (∃ fn, P.funcs[f]? = some fn /\ fn.body.isSome = true /\ (fn.name == "runtime.NumGoroutine") = false) /\
    ∀ base w0 I0 I β w (vs : Array Value), KLt base w0 -> Rel base w0 I0 I β σ w -> VRs I β args vs.toList ->
      Calls P f vs w (fun e w' => ∃ u, Ends r e u /\ Zbo σ.length base w0 I0 I β r σ' u w') := by
  obtain ⟨F, e, i0, i1, i2, i3, r0, r2, r3, m, b, hF, hres, hnt, hname, hu, hbody, hm1, hm2, hm3, hb1, hb2, hb3, hc0, hc2, ⟨a1, a2, a3, a4, hc3⟩, hzk, hk0⟩ := C.ex
  refine ⟨⟨F, hF, by rw [hbody]; rfl, hname⟩, ?_⟩
  intro base w0 I0 I β w vs hb R hargs
  unfold Zfz at h
  split at h
  case h_1 => cases h
  case h_3 => cases h
  rename_i a hns
  split at h
  case h_2 => cases h
  rename_i xs ts hel0
  split at h
  case isFalse => cases h
  rename_i hc
  obtain ⟨hbytes, hkOk⟩ := hc
  simp only [Xa, Xb] at h
  obtain ⟨rfl, rfl⟩ := h
  have hnt8 : ∀ (n : Nat), n < 8 -> n < ZeJ.nt := fun n h => h
  refine calls_of_wp hF hbody ?_
  have hsz : vs.size = 1 := by have := Zan hargs; simpa using this.symm
  have T := Zvi hargs (F.ntmps - vs.size)
  have hst : StR Zbr 8 base w0 I0 I β (enterA 0 [a] []) σ { tmps := vs ++ XaO (F.ntmps - vs.size) undef, defers := [] } w := ⟨I, β, Imm.le.refl I, Bmap.le.refl β, T, ⟨ZeR.2 rfl, by simp; omega⟩, R⟩
  have fin : ∀ {tm : Tms} {σ1 : Za} {y : AVal} {a' : Act} {w1 : World}, StR Zbr 8 base w0 I0 I β tm σ1 a' w1 -> tget tm 2 = y -> (∀ I' β' u, I.le I' -> β.le β' -> Rel base w0 I0 I' β' σ1 w1 -> VR I' β' y u -> Zbo σ.length base w0 I0 I β (.sl σ.length 0 0 xs.length) (σ ++ [.row 0 k xs]) u w1) ->
      a'.defers = [] /\ ∃ v, (results F a'.tmps).run P w1 = .ok v w1 /\ ∃ u, Ends (.sl σ.length 0 0 xs.length) (.returned v) u /\ Zbo σ.length base w0 I0 I β (.sl σ.length 0 0 xs.length) (σ ++ [.row 0 k xs]) u w1 := by
    rintro tm σ1 y a' w1 ⟨I', β', h1, h2, h3, h4, h5⟩ hy hpost
    refine ⟨ZeR.1 h4.1, a'.tmps.getD 2 undef, by simp [results, hres], _, rfl, ?_⟩
    have := h3 2
    rw [hy] at this
    exact hpost I' β' _ h1 h2 h5 this
  have R0 : ZaR P ZeJ (.region i0 r0 false) = .region [⟨some 2, .mov (.c (.lst true [])), none, []⟩] none [7, 6, 5, 4, 3, 2, 0] := by simp only [ZaR]; rw [hc0]; rfl
  have R2 : ZaR P ZeJ (.region i2 r2 false) = .region [⟨some 2, .mov (.c (.lst true [])), none, []⟩] none [7, 6, 5, 4, 3, 2, 0] := by simp only [ZaR]; rw [hc2]; rfl
  have R3 : ZaR P ZeJ (.region i3 r3 false) = .region [⟨some 5, .bslice false k 0 z [], none, a1⟩, ⟨some 6, .mov (.t 0), none, a2⟩, ⟨some 7, .app k bytes z (.t 5) (.t 6), none, a3⟩, ⟨some 2, .mov (.t 7), none, a4⟩] none [7, 6, 5, 4, 3, 2, 0] := by simp only [ZaR]; rw [hc3]; rfl
  refine wp_seq ?_
  refine Zjd (an := ZeJ) (dr := Zbr) (bf := fun _ => false) noO (fun n hn => by simp [Zbr] at hn) hm hb R0 hst (e := .normal) (tm' := keepL [7, 6, 5, 4, 3, 2, 0] [(2, .lst true []), (0, a)]) (σ' := σ) ?_ ?_
  . simp [Zcr, Zdu, sitesOf, nsite, Z8, Z0, Zbq, execI, Opd.ev, tput, tins, enterA]
  intro a1' w1 hst1
  simp only [Exit.then]
  refine wp_seq (wp_seq ?_)
  refine wp_region_list ?_
  refine Zgp hm3 ?_
  obtain ⟨I1, β1, g1, g2, g3, g4, g5⟩ := hst1
  have hs8 : 8 <= a1'.tmps.size := g4.2
  have hT0 : VR I1 β1 a (a1'.tmps.getD 0 undef) := by have := g3 0; simpa [keepL, tget] using this
  obtain ⟨A, cap, hv0, q1, q2, q5, q4⟩ := ZnH g5 (fun l e => hns l e) hel0 hT0
  show m.wp P a1' w1 _ _
  unfold Oper.wp
  have e1 : (execOp a1'.eval m).run P w1 = .ok (.value (.slice A xs.length cap)) w1 := by
    unfold execOp; rw [hm1]; simp [Act.eval, hv0]
  rw [e1, Oper.upon_value, hm2]
  refine Zgp hb3 ?_
  unfold Oper.wp
  have hs3 : (a1'.put (some 3) (.slice A xs.length cap)).tmps.getD 3 undef = .slice A xs.length cap := by
    have : 3 < a1'.tmps.size := by omega
    simp [Act.put, XaS, this]
  have e2 : (execOp (a1'.put (some 3) (.slice A xs.length cap)).eval b).run P w1 = .ok (.value (.bool A.isNone)) w1 := by
    have hq : (Op.equal t (.slice A xs.length cap) (.slice none 0 0)).run P w1 = .ok A.isNone w1 := run_equal_slice_nil w1 t e A xs.length cap hu
    unfold execOp; rw [hb1]
    simp only [Act.eval]
    rw [hs3]
    simp [eqGuard, binOp, hq]
  rw [e2, Oper.upon_value, hb2]
  refine wpList_nil ?_
  have hst2 : StR Zbr 8 base w0 I0 I β [(4, .bool A.isNone), (2, .lst true []), (0, a)] σ ((a1'.put (some 3) (.slice A xs.length cap)).put (some 4) (.bool A.isNone)) w1 := by
    refine ⟨I1, β1, g1, g2, fun n => ?_, ⟨Zky (Zky g4.1 (fun n _ hm => by simp [Zbr] at hm)) (fun n _ hm => by simp [Zbr] at hm), by rw [Zec, Zec]; exact g4.2⟩, g5⟩
    have hs : 4 < (a1'.put (some 3) (.slice A xs.length cap)).tmps.size := by rw [Zec]; omega
    have ne : ∀ {a : Act} {d j : Nat} {u : Value}, d ≠ j -> (a.put (some d) u).tmps.getD j undef = a.tmps.getD j undef := by
      intro a d j u hne
      simp only [Act.put, WY]; rw [Wv hne]
    simp only [tget]
    split
    . rename_i e; subst e
      rw [show ((a1'.put (some 3) (.slice A xs.length cap)).put (some 4) (.bool A.isNone)).tmps.getD 4 undef = .bool A.isNone by
        simp only [Act.put] at hs ⊢
        simp [XaS] at hs ⊢
        omega]
      simp only [VR]
    . split
      . rename_i e; subst e
        rw [ne (by omega), ne (by omega)]
        have := g3 2; simpa [keepL, tget] using this
      . split
        . rename_i e; subst e
          rw [ne (by omega), ne (by omega)]
          have := g3 0; simpa [keepL, tget] using this
        . simp only [VR]
  simp only [Exit.then]
  cases hA : A.isNone with
  | true =>
    have hx0 : xs = [] := by
      rcases q4 with h | ⟨b, off, k', us, e, _⟩
      . exact h
      . rw [e] at hA; cases hA
    subst hx0
    have hev : ((a1'.put (some 3) (.slice A 0 cap)).put (some 4) (.bool A.isNone)).eval (.tmp 4) = .bool true := by
      obtain ⟨_, _, _, _, T, _, _⟩ := hst2
      have := T 4
      simp only [tget, if_true, VR] at this
      rw [hA] at this
      simpa [Act.eval, hA] using this
    refine wp_cond_true (by simpa [hA] using hev) ?_
    refine wp_seq ?_
    rw [hA] at hst2
    refine Zjd (an := ZeJ) (dr := Zbr) (bf := fun _ => false) noO (fun n hn => by simp [Zbr] at hn) hm hb R2 hst2 (e := .normal) (tm' := keepL [7, 6, 5, 4, 3, 2, 0] [(4, .bool true), (2, .lst true []), (0, a)]) (σ' := σ) ?_ ?_
    . simp [Zcr, Zdu, sitesOf, nsite, Z8, Z0, Zbq, execI, Opd.ev, tput, tins]
    intro a3' w3 hst3
    simp only [Exit.then]
    refine wp_ret ?_
    refine fin hst3 (y := .lst true []) (by simp [keepL, tget]) ?_
    intro I' β' u h1 h2 h3 h4
    simp only [VR] at h4
    obtain ⟨A', cap', rfl, _, _, hx, _⟩ := h4
    have hcap : cap' = 0 := by simpa using hx
    subst hcap
    have R4 := h3.reserve 1
    have hfree : (σ ++ Xr 1 Zq.free)[σ.length]? = some .free := by simp
    obtain ⟨R5, hle⟩ := R4.newNone hfree k hk0
    refine ⟨I', _, h1, KeptE.of_le (h2.trans hle), ?_, ?_⟩
    . have : (σ ++ Xr 1 Zq.free).set σ.length (.row 0 k []) = σ ++ [.row 0 k []] := by simp
      rw [this] at R5; exact R5
    . simp only [ZaN]
      rw [ZcC]
      exact ⟨_, Bmap.put_same β' σ.length 0 _, by simp, by simp, XO ⟨rfl, rfl, A', rfl⟩⟩
  | false =>
    have hev : ((a1'.put (some 3) (.slice A xs.length cap)).put (some 4) (.bool A.isNone)).eval (.tmp 4) = .bool false := by
      obtain ⟨_, _, _, _, T, _, _⟩ := hst2
      have := T 4
      simp only [tget, if_true, VR] at this
      rw [hA] at this
      simpa [Act.eval, hA] using this
    refine wp_cond_false (by simpa [hA] using hev) ?_
    refine wp_skip ?_
    rw [hA] at hst2
    simp only [Exit.then]
    refine wp_seq ?_
    have hel : Zo (σ ++ [Zq.free]) a = some (xs, ts) := Zgm hel0 (fun t ht => by
      obtain ⟨g, k, ys, h | h⟩ := ZjE hel0 t ht <;> (rw [Wf (Xf.1 h).1]))
    refine Zjd (an := ZeJ) (dr := Zbr) (bf := fun _ => false) noO (fun n hn => by simp [Zbr] at hn) hm hb R3 hst2 (e := .normal) (tm' := keepL [7, 6, 5, 4, 3, 2, 0] [(7, .sl σ.length 0 0 xs.length), (6, a), (5, .lst true []), (4, .bool false), (2, .sl σ.length 0 0 xs.length), (0, a)]) (σ' := σ ++ [.row 0 k xs]) ?_ ?_
    . have hfa : freeAt (σ ++ [Zq.free]) σ.length = true := by simp [freeAt]
      have hnp : (∃ x ys, a = .lst x ys) \/ ∃ t g lo n, a = .sl t g lo n := by
        cases a with
        | lst x ys => exact XH ⟨x, ys, rfl⟩
        | sl t g lo n => exact XO ⟨t, g, lo, n, rfl⟩
        | str l => exact absurd rfl (hns l)
        | _ => simp [Zo] at hel0
      rcases hnp with ⟨x, ys, rfl⟩ | ⟨t', g', lo, n, rfl⟩
      . simp [Zcr, Zdu, sitesOf, nsite, Z8, Z0, Zbq, execI, Opd.ev, tput, tins, tget, viewAs, ZV, hzk, Zaj, hel, hkOk, hbytes, hfa]
      . simp [Zcr, Zdu, sitesOf, nsite, Z8, Z0, Zbq, execI, Opd.ev, tput, tins, tget, viewAs, ZV, hzk, Zaj, hel, hkOk, hbytes, hfa]
    intro a3' w3 hst3
    simp only [Exit.then]
    refine wp_ret ?_
    refine fin hst3 (y := .sl σ.length 0 0 xs.length) (by simp [keepL, tget]) ?_
    intro I' β' u h1 h2 h3 h4
    exact ⟨I', β', h1, KeptE.of_le h2, h3, h4⟩
end
end
section
open Go.RowKit
structure ZGh (P:Program) (f h:FuncId) (ti tc:TypeId) (an1 an2 an3:Ann) (c1 c2 c3:Zv) (rs:List Zda):Prop where
 ex:∃ (F H:Func) (b1 b2 b3 b4:Code) (i0 j0 j1 j2 j3 bid:Nat) (t1 t2 t3 t4 t5 t6 t7 t8:TypeId) (p1 p2 p3 p4 p5 p6 p7 p8:String) (a1 a2 a3 a4 a5 a6 a7 a8:Array Edge) (at1 at2:Array TypeId) (ims:Array (String×TypeId)) (k:IntKind),
  P.funcs[f]?=some F/\(F.name == "runtime.NumGoroutine")=false/\F.ntmps=20/\ZeB P F.results.toList=some rs /\
  F.body=some (.seq b1 (.seq (.region i0 #[⟨some 5,.makeFunc (.func h) #[] #[.tmp 2,.tmp 3],t1,p1,a1,none⟩,⟨none,.defer ⟨.value (.tmp 5),#[],at1⟩,t2,p2,a2,none⟩] false) b2)) /\
  ZcH (ZaR P an1 b1)=c1/\ZcH (ZaR P an2 b2)=c2/\an1.nt=20/\an2.nt=20/\an2.keep=[2,3] /\
  P.funcs[h]?=some H/\(H.name == "runtime.NumGoroutine")=false/\H.ntmps=13/\H.results=#[] /\
  H.body=some (.seq (.region j0 #[⟨some 5,.call ⟨.builtin .recover,#[],at2⟩,t3,p3,a3,none⟩] false) (.block bid (.seq (.region j1 #[⟨some 7,.binOp .eql ti (.tmp 5) (.const .nilIface) ti,t4,p4,a4,none⟩] false)
   (.cond (.tmp 7) (.region j2 #[⟨some 2,.assign (.tmp 5),t5,p5,a5,none⟩] false)
    (.seq (.region j3 #[⟨some 8,.typeAssert (.tmp 5) ti tc true,t6,p6,a6,none⟩,⟨some 9,.extract (.tmp 8) 1,t7,p7,a7,none⟩,⟨some 10,.extract (.tmp 8) 0,t8,p8,a8,none⟩] false)
     (.cond (.tmp 9) b3 b4)))))) /\
  ZcH (ZaR P an3 b3)=c3/\an3.nt=13/\P.underlying ti=some (.interface ims)/\P.underlying tc=some (.int k)
section
variable {P:Program} {O:Z7} {bf:Nat->Bool} {base:Nat->Prop} {w0 w:World} {I0 I:Imm} {β:Bmap} {σ:Za}
theorem pgs {a:Act} {d:Nat} {u:Value} (h:d < a.tmps.size):(a.put (some d) u).tmps.getD d undef=u:=by
 simp [Act.put,XaS,h]
theorem ZjA {m:Sem Value} {u:Value} (h:m.run P w=.ok u w):(do let q <-m;pure (Next.value q):Sem Next).run P w=.ok (.value u) w:=by
 rw [Sem.run_bind,h];rfl
theorem pgn {a:Act} {d j:Nat} {u:Value} (h:d≠j):(a.put (some d) u).tmps.getD j undef=a.tmps.getD j undef:=by
 simp only [Act.put,WY]
 rw [Wv h]
end
section
variable {P:Program} {fs:Nat->Option Zam} {prim:Zbz} {bf:Nat->Bool}
end
section
variable {fs:Nat->Option Zam} {p p':Zbz} {bf:Nat->Bool}
theorem ZyB (h0:∀ f,p f=none->p' f=none) (h1:∀ f g,p f=some g->p' f=some g\/∀ a σ,g a σ=none):∀ n,OLe (ZaB fs p bf n) (ZaB fs p' bf n)
 | 0=>by intro f a σ r h;simp only [ZaB] at h;cases h
 | n+1=>by
  intro f a σ r h
  rw [ZaB] at h ⊢
  split at h
  ·rename_i g hg
   rcases h1 f g hg with h2 | h2
   ·rw [h2];exact h
   ·rw [h2] at h;cases h
  ·rename_i hg
   rw [h0 f hg]
   split at h
   ·cases h
   ·rename_i fn hfn
    exact ZiF (fun q hq=>Zd0 (ZyB h0 h1 n) (X0 n) hq) h
theorem ZwX (h0:∀ f,p f=none->p' f=none) (h1:∀ f g,p f=some g->p' f=some g\/∀ a σ,g a σ=none):OLe (EV fs p bf) (EV fs p' bf):=by
 intro f a σ r h
 obtain ⟨n,hn⟩:=ZdA.1 h
 exact ZdA.2 ⟨n,ZyB h0 h1 n f a σ r hn⟩
end
end
section
open Go.RowKit
theorem ZvZ:∀ (js L:List Nat),js.Nodup->(∀ j ∈ js,j ∈ L)->L.Nodup->∃ rest,L.Perm (js++rest)
 | [],L,_,_,_=>⟨L,List.Perm.refl _⟩
 | j::js,L,hn,hs,hL=>by
  have hj:j ∈ L:=hs j (by simp)
  have hp:L.Perm (j::L.erase j):=List.perm_cons_erase hj
  obtain ⟨rest,hr⟩:=ZvZ js (L.erase j) (Wc.1 hn).2 (fun k hk=>by
   have hne:k≠j:=by rintro rfl;exact (Wc.1 hn).1 hk
   exact (List.mem_erase_of_ne hne).2 (hs k (by simp [hk]))) (hL.erase j)
  exact ⟨rest,hp.trans (by simpa using List.Perm.cons j hr)⟩
theorem ZBS {α:Type} (es:List α) (d:α):(W1 es.length).map (es.getD · d)=es:=by
 apply List.ext_getElem?
 intro i
 rw [XY]
 by_cases h:i < es.length
 ·rw [List.getElem?_range h];simp [Xn,h]
 ·rw [XX (by simpa using h),XX (by omega)];rfl
def ZfD (bf:Nat->Bool) (asl:List AOp) (tm:Tms) (σ:Za):Option (Tms×Za):=match Z8 (fun _ _ _=>none) bf asl σ.length tm σ with
 | some (tm',σ',_,none)=>some (tm',σ')
 | _=>none
def ZeY (m:Nat):AVal->Bool
 | .int _ _ | .bool _ | .str _ | .nilp | .nilm | .nili | .lst _ _=>true
 | .sl t g _ _=>decide (g=0) && decide (t < m)
 | .ref t _=>decide (t < m)
 | .map t=>decide (t < m)
 | _=>false
def Zja (m:Nat):AVal->Bool
 | .agg cs=>cs.all (ZeY m)
 | x=>ZeY m x
@[simp] def ZdW:Za->Za->Bool
 | _,[]=>true
 | [],b::r=>!Zdg b && ZdW [] r
 | a::s,b::r=>(!Zdg b || Zdg a) && ZdW s r
theorem ZrF:∀ {σ σ':Za} {u:Nat} {b:Zq},ZdW σ σ'=true->σ'[u]?=some b->Zdg b=true->∃ a,σ[u]?=some a/\Zdg a=true
 | _,[],u,b,_,h,_=>by simp at h
 | [],x::r,u,b,h,hu,hb=>by
  simp only [ZdW,Xt,WH] at h
  cases u with
  | zero =>
   simp only [XN,Xa] at hu
   subst hu
   rw [h.1] at hb;cases hb
  | succ u =>
   obtain ⟨a,h1,_⟩:=ZrF h.2 (by simpa using hu) hb
   simp at h1
 | a::s,x::r,u,b,h,hu,hb=>by
  simp only [ZdW,Xt,WQ,WH] at h
  cases u with
  | zero =>
   simp only [XN,Xa] at hu
   subst hu
   rcases h.1 with h1 | h1
   ·rw [h1] at hb;cases hb
   ·exact ⟨a,rfl,h1⟩
  | succ u =>
   obtain ⟨a',h1,h2⟩:=ZrF h.2 (by simpa using hu) hb
   exact ⟨a',by simpa using h1,h2⟩
section
variable (fs:Nat->Option Zam) (prim:Zbz) (bf:Nat->Bool) (m:Nat) (live:List Nat) (ms en b1:Nat) (aslE:List AOp) (c2 c3:Zv) (rs:List Zda)
open Classical in
noncomputable def Zfi (es : List (AVal × AVal)) (kv : AVal × AVal) (tm : Tms) (σ : Za) : Option (Tms × Za) :=
  match tget (gcT m (keepL live tm) σ).1 ms with
  | .map t => if (gcT m (keepL live tm) σ).2[t]? = some (.map es) /\ (∀ p ∈ es, Zja (gcT m (keepL live tm) σ).2.length p.2 = true) then
      match ZfD bf aslE (tput (gcT m (keepL live tm) σ).1 (some en) (.tup [kv.1, kv.2])) ((gcT m (keepL live tm) σ).2.set t (.rmap es)) with
      | some (tm1, σ1) => match evC fs prim bf (gcT m (keepL live tm) σ).2.length c2 tm1 σ1 with
        | some (.normal, tm2, σ2) => if σ2[t]? = some (.rmap es) /\ ZdW ((gcT m (keepL live tm) σ).2.set t (.rmap es)) σ2 = true then some (tput tm2 (some ms) (.map t), σ2.set t (.map es)) else none
        | some (.exit i, tm2, σ2) => if i = b1 /\ σ2[t]? = some (.rmap es) /\ ZdW ((gcT m (keepL live tm) σ).2.set t (.rmap es)) σ2 = true then some (tput tm2 (some ms) (.map t), σ2.set t (.map es)) else none
        | _ => none
      | none => none
    else none
  | _ => none
noncomputable def Zdy (es:List (AVal×AVal)):List (AVal×AVal)->Tms->Za->Option (Tms×Za)
 | [],tm,σ=>some (tm,σ)
 | kv::r,tm,σ=>match Zfi fs prim bf m live ms en b1 aslE c2 es kv tm σ with
  | some (tm',σ')=>Zdy es r tm' σ'
  | none=>none
noncomputable def Zfv (tm:Tms) (σ:Za):Option (AVal×Za) :=
 Za4 m ⟨rs,c3⟩ (evC fs prim bf m c3 (gcT m (keepL live tm) σ).1 (gcT m (keepL live tm) σ).2)
noncomputable def ZgD (es es':List (AVal×AVal)) (tm:Tms) (σ:Za):Option (AVal×Za) :=
 match Zdy fs prim bf m live ms en b1 aslE c2 es es' tm σ with
 | some (tm',σ')=>Zfv fs prim bf m live c3 rs tm' σ'
 | none=>none
open Classical in
noncomputable def ZhC (es:List (AVal×AVal)) (tm:Tms) (σ:Za):Option (AVal×Za) :=
 if h:∃ out,∀ es':List (AVal×AVal),es'.Perm es->ZgD fs prim bf m live ms en b1 aslE c2 c3 rs es es' tm σ=some out then some h.choose else none
end
def Zhb (σ:Za) (t:Nat):Option (List (AVal×AVal)×Za):=match σ[t]? with
 | some (.map es)=>some (es,σ)
 | some (.gmap _ es)=>match Ze8 es with
  | some l=>some (l,σ.set t (.map l))
  | none=>none
 | _=>none
noncomputable def Zrl (fs:Nat->Option Zam) (prim:Zbz) (bf:Nat->Bool) (live:List Nat) (ms en b1:Nat) (asl1 aslE:List AOp) (c1 c2 c3:Zv) (rs:List Zda) (args:List AVal) (σ:Za):Option (AVal×Za) :=
 match evC fs prim bf σ.length c1 (enterA 0 args []) σ with
 | some (.normal,tm1,σ1)=>match ZfD bf asl1 tm1 σ1 with
  | some (tm2,σ2)=>match tget tm2 ms with
   | .map t=>match Zhb σ2 t with
    | some (es,σ3)=>ZhC fs prim bf σ.length live ms en b1 aslE c2 c3 rs es tm2 σ3
    | none=>none
   | _=>none
  | none=>none
 | _=>none
def Zfs:List Code->Code->Code
 | [],x=>x
 | c::l,x=>.seq c (Zfs l x)
def ZgZ:Nat->Code->Option (List Code×Code)
 | 0,c=>some ([],c)
 | n+1,.seq a b=>match ZgZ n b with
  | some (l,x)=>some (a::l,x)
  | none=>none
 | _,_=>none
theorem Zw0:∀ {n:Nat} {c x:Code} {l:List Code},ZgZ n c=some (l,x)->c=Zfs l x
 | 0,c,x,l,h=>by simp only [ZgZ,Xa,Xb] at h;obtain ⟨rfl,rfl⟩:=h;rfl
 | n+1,c,x,l,h=>by
  cases c with
  | seq a b =>
   simp only [ZgZ] at h
   split at h
   ·rename_i l' x' h'
    simp only [Xa,Xb] at h
    obtain ⟨rfl,rfl⟩:=h
    rw [Zw0 h',Zfs]
   ·cases h
  | _=>simp [ZgZ] at h
structure ZwW (P:Program) (f:FuncId) (an1 an3:Ann) (nt n0 n1 ms it nx ok en bid b1:Nat) (live:List Nat) (asl1 aslE:List AOp) (c1 c2 c3:Zv) (rs:List Zda):Prop where
 ex:∃ (F:Func) (B:Code) (pre:List Code) (ops1 ops3 ops4:Array Oper) (i2 i3 i4:Nat) (body rest:Code) (t kt et:TypeId) (rg nxo exo eno:Oper) (lE:List Oper),
  P.funcs[f]?=some F/\(F.name == "runtime.NumGoroutine")=false/\F.ntmps=nt/\ZeB P F.results.toList=some rs/\F.body=some B /\
  ZgZ n0 B=some (pre,.seq (.seq (.region i2 ops1 false) (.block bid (.loop (.seq (.region i3 ops3 false) (.seq (.cond (.tmp ok) .skip (.exit bid)) (.block b1 (.seq (.region i4 ops4 false) body))))))) rest) /\
  ops1.toList.drop n1=[rg]/\ops3.toList=[nxo,exo]/\ops4.toList=eno::lE /\
  rg.op=.range t (.tmp ms)/\rg.dst=some it/\rg.guard=none/\P.underlying t=some (.map kt et) /\
  nxo.op=.next (.tmp it) false/\nxo.dst=some nx/\nxo.guard=none/\exo.op=.extract (.tmp nx) 0/\exo.dst=some ok/\exo.guard=none /\
  eno.op=.entry (.tmp it)/\eno.dst=some en/\eno.guard=none /\
  ZcH (ZaR P an1 (Zfs pre .skip))=c1/\ZcY P an1 ops1 (ops1.toList.take n1)=some asl1/\ZcY P an3 ops4 lE=some aslE/\ZcH (ZaR P an3 body)=c2/\ZcH (ZaR P an1 rest)=c3 /\
  an1.nt=nt/\an3.nt=nt/\an3.keep=[it,ms] /\
  (decide (it < nt) && decide (nx < nt) && decide (ok < nt) && decide (en < nt) && decide (it≠ms) && decide (nx≠ms) && decide (ok≠ms) && decide (en≠ms) && decide (nx≠it) && decide (ok≠it) && decide (en≠it) && decide (nx≠ok) && live.all fun n=>decide (n≠it) && decide (n≠nx) && decide (n≠ok) && decide (n≠en))=true
section
variable {P:Program} {O:Z7} {bf:Nat->Bool} {an:Ann} {base:Nat->Prop} {w0 w w':World} {I0 I I':Imm} {β β':Bmap} {σ σ':Za} {dr:Door}
theorem ZpS (hO:ZaF P O) (hkp:∀ n ∈ dr.K,n ∈ an.keep) (hb:KLt base w0) {ops:Array Oper} {Q:Exit->Act->World->Prop} {r:List Oper}:∀ {l:List Oper} {asl:List AOp} {sq:Nat} {I:Imm} {β:Bmap} {tm tm':Tms} {σ σ':Za} {cs:List Cls} {a:Act} {w:World},ZcY P an ops l=some asl->TR I β tm a.tmps->(dr.ok a/\an.nt<=a.tmps.size)->Rel base w0 I0 I β σ w ->
  Z8 O bf asl sq tm σ=some (tm',σ',cs,none)->(∀ a' w',StR dr an.nt base w0 I0 I β tm' σ' a' w'->wpList P ops Q r a' w')->wpList P ops Q (l++r) a w
 | [],asl,sq,I,β,tm,tm',σ,σ',cs,a,w,hc,T,hd,R,h,hQ=>by
  simp only [ZcY,Xa] at hc;subst hc
  simp only [Z8,Xa,Xb] at h
  obtain ⟨rfl,rfl,rfl,_⟩:=h
  exact hQ _ _ ⟨I,β,Imm.le.refl I,Bmap.le.refl β,T,hd,R⟩
 | o::l,asl,sq,I,β,tm,tm',σ,σ',cs,a,w,hc,T,hd,R,h,hQ=>by
  simp only [ZcY] at hc
  split at hc
  ·rename_i ao hao
   split at hc
   ·rename_i as' has'
    injection hc with hc;subst hc
    simp only [Z8] at h
    split at h
    ·cases h
    ·simp only [Xa,Xb] at h
     obtain ⟨_,_,_,h⟩:=h
     cases h
    ·rename_i v tm1 σ1 c1 hnp h1
     split at h
     ·cases h
     rename_i tm2 σ2 cs2 p2 h2
     simp only [Xa,Xb] at h
     obtain ⟨rfl,rfl,rfl,rfl⟩:=h
     have:=Zhj (dr:=dr) (K:=wpList P ops Q (l++r)) (Q:=Q) hO hkp hao T hd R hb h1 (fun _ a' w' hs=>by
      obtain ⟨I',β',g1,g2,g3,g4,g5⟩:=hs
      exact ZpS hO hkp hb has' g3 g4 g5 h2 (fun a'' w'' hs'=>hQ a'' w'' (hs'.trans g1 g2))) (fun x e=>absurd e (fun e=>hnp x e))
     rw [X1]
     unfold wpList
     exact this
   ·cases hc
  ·cases hc
theorem Zwo {asl:List AOp} {tm tm':Tms} (h:ZfD bf asl tm σ=some (tm',σ')):∃ cs,Z8 (fun _ _ _=>none) bf asl σ.length tm σ=some (tm',σ',cs,none):=by
 unfold ZfD at h
 split at h
 ·rename_i tm1 σ1 cs h1
  simp only [Xa,Xb] at h
  obtain ⟨rfl,rfl⟩:=h
  exact ⟨cs,h1⟩
 ·cases h
theorem Zx5 {Q:Exit->Act->World->Prop} (hO:ZaF P O) (hm:P.follows .mixedOrders=true) (hb:KLt base w0) (m n:Nat) (X:Code):∀ (pre:List Code) {I:Imm} {β:Bmap} {tm tm':Tms} {σ σ':Za} {a:Act} {w:World},StF Zbr m an.nt base w0 I0 I β tm σ a w->Zab O bf m n (ZaR P an (Zfs pre .skip)) tm σ=some (.normal,tm',σ') ->
  (∀ a' w',StF Zbr m an.nt base w0 I0 I β tm' σ' a' w'->X.wp P Q a' w')->(Zfs pre X).wp P Q a w
 | [],I,β,tm,tm',σ,σ',a,w,hst,h,hQ=>by
  simp only [Zfs,ZaR,Zab,Xa,Xb] at h
  obtain ⟨_,rfl,rfl⟩:=h
  exact hQ a w hst
 | c::l,I,β,tm,tm',σ,σ',a,w,hst,h,hQ=>by
  simp only [Zfs,ZaR,Zab] at h
  split at h
  ·rename_i tm1 σ1 h1
   refine wp_seq ?_
   refine ZiW (dr:=Zbr) (an:=an) hO (fun n hn=>by simp [Zbr] at hn) hm hb m n rfl hst h1 ?_
   intro a' w' hs
   exact Zx5 hO hm hb m n X l hs h hQ
  ·rename_i hne
   exact absurd h (hne _ _)
theorem ZEq {m:Nat} {x:AVal} {v:Value} (hx:ZeY m x=true) (hk:KeptE m β β') (h:VR I β x v):VR I' β' x v\/(∃ a xs,x=.lst a xs):=by
 cases x with
 | int | bool | str | nilp | nilm | nili=>exact XH h
 | lst a xs=>exact XO ⟨a,xs,rfl⟩
 | sl t g lo n =>
  simp only [ZeY,Xt,decide_eq_true_eq] at hx
  obtain ⟨rfl,ht⟩:=hx
  simp only [VR] at h ⊢
  obtain ⟨bi,e,h⟩:=h
  exact XH ⟨bi,hk t ht bi e,h⟩
 | ref t o =>
  simp only [ZeY,decide_eq_true_eq] at hx
  simp only [VR] at h ⊢
  obtain ⟨b,k,c,e,h⟩:=h
  exact XH ⟨b,k,c,hk t hx _ e,h⟩
 | map t =>
  simp only [ZeY,decide_eq_true_eq] at hx
  simp only [VR] at h ⊢
  obtain ⟨b,k,c,e,h⟩:=h
  exact XH ⟨b,k,c,hk t hx _ e,h⟩
 | _=>simp [ZeY] at hx
theorem ZF4 {a:Bool} {xs:List AVal} {v:Value} (hI:I.le I') (h:VR I β (.lst a xs) v):VR I' β' (.lst a xs) v:=by
 have ht:ZaT (.lst a xs)=true:=by
  simp only [VR] at h
  obtain ⟨A,cap,_,_,_,_,_,ht⟩:=h
  simpa [ZaT] using ht
 exact (VR.of_tree (β':=β') ht h).mono hI (Bmap.le.refl _) _ _
theorem ZxJ {m:Nat} {x:AVal} {v:Value} (hx:ZeY m x=true) (hI:I.le I') (hk:KeptE m β β') (h:VR I β x v):VR I' β' x v:=by
 rcases ZEq (I':=I') hx hk h with h | ⟨a,xs,rfl⟩
 ·exact h
 ·exact ZF4 hI h
theorem Zxw {m:Nat} (hI:I.le I') (hk:KeptE m β β'):∀ {cs:List AVal} {vs:List Value},cs.all (ZeY m)=true->VRs I β cs vs->VRs I' β' cs vs
 | [],vs,_,h=>h
 | x::cs,vs,hx,h=>by
  rw [Xi,Xt] at hx
  simp only [VRs] at h ⊢
  obtain ⟨v,vs',rfl,h1,h2⟩:=h
  exact ⟨v,vs',rfl,ZxJ hx.1 hI hk h1,Zxw hI hk hx.2 h2⟩
theorem ZDU {m:Nat} {x:AVal} {v:Value} (hx:Zja m x=true) (hI:I.le I') (hk:KeptE m β β') (h:VR I β x v):VR I' β' x v:=by
 cases x with
 | agg cs =>
  simp only [VR] at h ⊢
  obtain ⟨us,rfl,h⟩:=h
  exact ⟨us,rfl,Zxw hI hk hx h⟩
 | _=>exact ZxJ hx hI hk h
theorem Zw4 {m:Nat} (hI:I.le I') (hk:KeptE m β β'):∀ {cs:List AVal} {vs:List Value},(∀ x ∈ cs,Zja m x=true)->VRs I β cs vs->VRs I' β' cs vs
 | [],vs,_,h=>h
 | x::cs,vs,hx,h=>by
  simp only [VRs] at h ⊢
  obtain ⟨v,vs',rfl,h1,h2⟩:=h
  exact ⟨v,vs',rfl,ZDU (hx x (by simp)) hI hk h1,Zw4 hI hk (fun y hy=>hx y (by simp [hy])) h2⟩
theorem ZvG:∀ {cs:List AVal} {vs:List Value},(∀ x ∈ cs,Zcw x=true)->VRs I β cs vs->VRs I' β' cs vs
 | [],vs,_,h=>h
 | x::cs,vs,hx,h=>by
  simp only [VRs] at h ⊢
  obtain ⟨v,vs',rfl,h1,h2⟩:=h
  refine ⟨v,vs',rfl,?_,ZvG (fun y hy=>hx y (by simp [hy])) h2⟩
  have:=hx x (by simp)
  cases x <;> simp [Zcw] at this <;> exact h1
end
end
section
open Go.RowKit
open Go.ChangeMaps (setBlock)
section
variable {P:Program} {base base':Nat->Prop} {w0 w w' w1 w2:World} {I0 I I' I1 I2:Imm} {β β' β1 β2:Bmap} {σ σ' σ1 σ2:Za}
theorem Rel.rebase (R:Rel base w0 I0 I β σ w) {r:Nat} (hr:∀ t x,σ[t]?=some x->¬Zw w β t x r):Rel (fun k=>base k\/k=r) w I I β σ w where
 below:=KB.refl _ _
 old:=fun _ _ _=>rfl
 imm:=R.imm
 blk:=R.blk
 own:=fun t x b hx hb=>⟨fun h=>by
  rcases h with h | rfl
  ·exact (R.own t x b hx hb).1 h
  ·exact hr t x hx hb,(R.own t x b hx hb).2⟩
 apart:=R.apart
 fresh:=R.fresh
 free:=R.free
 gen:=R.gen
 glob:=R.glob
 ro:=fun t x b h hs=>XH (R.ro t x b h hs)
theorem Rel.unbase (R1:Rel base w0 I0 I1 β1 σ1 w1) (R2:Rel base' w1 I1 I2 β2 σ2 w2) (hs:∀ k,base k->base' k) (hro:∀ t x b,σ2[t]?=some x->Zco β2 t x b->base b):Rel base w0 I0 I2 β2 σ2 w2 where
 below:=R1.below.trans (R2.below.mono hs)
 old:=fun b o h=>(R2.old b o (hs b h)).trans (R1.old b o h)
 imm:=R2.imm
 blk:=R2.blk
 own:=fun t x b hx hb=>⟨fun h=>(R2.own t x b hx hb).1 (hs b h),(R2.own t x b hx hb).2⟩
 apart:=R2.apart
 fresh:=R2.fresh
 free:=R2.free
 gen:=R2.gen
 glob:=R2.glob
 ro:=hro
theorem Rel.hide (R:Rel base w0 I0 I β σ w) {t b r:Nat} {es:List (AVal×AVal)} (ht:σ[t]?=some (.map es)) (hb:Zw w β t (.map es) b) (hr:∀ t x,σ[t]?=some x->¬Zw w β t x r):Rel (fun k=>base k\/k=b\/k=r) w I I β (σ.set t (.rmap es)) w where
 below:=KB.refl _ _
 old:=fun _ _ _=>rfl
 imm:=R.imm
 blk:=fun u x hx=>by
  rw [Xv] at hx
  split at hx
  ·rename_i e;subst e
   split at hx
   ·injection hx with hx;subst hx
    have hB:=R.blk t (.map es) ht
    exact hB
   ·cases hx
  ·exact R.blk u x hx
 own:=fun u x b' hx ho=>by
  rw [Xv] at hx
  split at hx
  ·split at hx
   ·injection hx with hx;subst hx;cases ho
   ·cases hx
  ·rename_i hne
   have:=R.own u x b' hx ho
   refine ⟨fun h=>?_,this.2⟩
   rcases h with h | rfl | rfl
   ·exact this.1 h
   ·exact hne (R.apart u x t _ _ hx ht ho hb).symm
   ·exact hr u x hx ho
 apart:=fun u x u' x' b' hx hx' ho ho'=>by
  rw [Xv] at hx hx'
  split at hx
  ·split at hx
   ·injection hx with hx;subst hx;cases ho
   ·cases hx
  ·split at hx'
   ·split at hx'
    ·injection hx' with hx';subst hx';cases ho'
    ·cases hx'
   ·exact R.apart u x u' x' b' hx hx' ho ho'
 fresh:=fun u g hu=>R.fresh u g (by simpa using hu)
 free:=fun u g hu=>by
  rw [Xv] at hu
  split at hu
  ·split at hu
   ·injection hu with hu;cases hu
   ·cases hu
  ·exact R.free u g hu
 gen:=fun u x g hx hg=>by
  rw [Xv] at hx
  split at hx
  ·rename_i e;subst e
   split at hx
   ·injection hx with hx;subst hx
    exact R.gen t _ g ht (by simpa [Zc] using hg)
   ·cases hx
  ·exact R.gen u x g hx hg
 glob:=R.glob
 ro:=fun u x b' hx hs=>by
  rw [Xv] at hx
  split at hx
  ·rename_i e;subst e
   split at hx
   ·injection hx with hx;subst hx
    exact XO (XH (XaQ (hb.symm.trans hs)).symm)
   ·cases hx
  ·exact XH (R.ro u x b' hx hs)
theorem Rel.unhide (R1:Rel base w0 I0 I1 β1 σ1 w1) {t b r:Nat} (R2:Rel (fun k=>base k\/k=b\/k=r) w1 I1 I2 β2 σ2 w2) {es:List (AVal×AVal)} (ht:σ2[t]?=some (.rmap es)) (hb:Zw w β2 t (.map es) b) (hB:BR I2 β2 w2 t (.map es)) (hbase:¬base b) (hI:∀ o,I2 b o=none) (hro:∀ u x b,u≠t->σ2[u]?=some x->Zco β2 u x b->base b):Rel base w0 I0 I2 β2 (σ2.set t (.map es)) w2 where
 below:=R1.below.trans (R2.below.mono fun _ h=>XH h)
 old:=fun k o h=>(R2.old k o (XH h)).trans (R1.old k o h)
 imm:=R2.imm
 blk:=fun u x hx=>by
  rw [Xv] at hx
  split at hx
  ·rename_i e;subst e
   split at hx
   ·injection hx with hx;subst hx;exact hB
   ·cases hx
  ·exact R2.blk u x hx
 own:=fun u x b' hx ho=>by
  rw [Xv] at hx
  split at hx
  ·rename_i e;subst e
   split at hx
   ·injection hx with hx;subst hx
    obtain rfl:b=b':=XaQ (hb.symm.trans ho)
    exact ⟨hbase,hI⟩
   ·cases hx
  ·have:=R2.own u x b' hx ho
   exact ⟨fun h=>this.1 (XH h),this.2⟩
 apart:=fun u x u' x' b' hx hx' ho ho'=>by
  rw [Xv] at hx hx'
  split at hx
  ·rename_i e;subst e
   split at hx
   ·injection hx with hx;subst hx
    obtain rfl:b=b':=XaQ (hb.symm.trans ho)
    split at hx'
    ·assumption
    ·exact absurd (XO (XH rfl)) (R2.own u' x' _ hx' ho').1
   ·cases hx
  ·split at hx'
   ·rename_i e;subst e
    split at hx'
    ·injection hx' with hx';subst hx'
     obtain rfl:b=b':=XaQ (hb.symm.trans ho')
     exact absurd (XO (XH rfl)) (R2.own u x _ hx ho).1
    ·cases hx'
   ·exact R2.apart u x u' x' b' hx hx' ho ho'
 fresh:=fun u g hu=>R2.fresh u g (by simpa using hu)
 free:=fun u g hu=>by
  rw [Xv] at hu
  split at hu
  ·split at hu
   ·injection hu with hu;cases hu
   ·cases hu
  ·exact R2.free u g hu
 gen:=fun u x g hx hg=>by
  rw [Xv] at hx
  split at hx
  ·rename_i e;subst e
   split at hx
   ·injection hx with hx;subst hx
    exact R2.gen t _ g ht (by simpa [Zc] using hg)
   ·cases hx
  ·exact R2.gen u x g hx hg
 glob:=R2.glob
 ro:=fun u x b' hx hs=>by
  rw [Xv] at hx
  split at hx
  ·split at hx
   ·injection hx with hx;subst hx;cases hs
   ·cases hx
  ·rename_i hne
   exact hro u x b' (Ne.symm hne) hx hs
theorem Rel.turn (R:Rel base w0 I0 I β σ w) {r:Nat} (hr:∀ t x,σ[t]?=some x->¬Zw w β t x r) (hb:¬base r) (hI:∀ o,I r o=none) (hos:w'.os=w.os) (ht:w'.tape=w.tape) (ho:w'.output=w.output) (hs:w.heap.size<=w'.heap.size) (hk:∀ k,k≠r->k < w.heap.size->w'.heap[k]?=w.heap[k]?) (hbl:KLt base w):Rel base w0 I0 I β σ w':=by
 refine R.stay (Imm.le.refl I) ⟨hos,ht,ho,hs,fun k h=>hk k (by rintro rfl;exact hb h) (hbl k h)⟩ (fun _ _ _=>rfl) ?_ ?_
 ·intro b o u hu
  have h1:=R.imm b o u hu
  have hne:b≠r:=by rintro rfl;rw [hI] at hu;cases hu
  have hlt:=Zd1 h1
  rw [<-h1]
  simp only [World.cell?,hk b hne hlt]
 ·intro t x b hx hb'
  have hne:b≠r:=by rintro rfl;exact hr t x hx hb'
  exact ⟨hk b hne ((R.blk t x hx).owns_lt hb'),(R.own t x b hx hb').2⟩
theorem ZDH (m:Nat) (tm:Tms) (σ:Za):m<=(gcT m tm σ).2.length:=by
 show m<=(Ze σ m _ _ _ 0).length
 rw [ZiJ]
 obtain ⟨_,r,hr⟩:=ZgG (σ:=σ) 1000 (ZZ (tm.map (·.2))++(W1 m).flatMap fun t=>Zp (σ.getD t .free)) (W1 m) List.nodup_range
 show m<=(Zm m (tm.map (·.2)) σ).length
 unfold Zm
 rw [hr]
 simp
end
section
variable {fs:Nat->Option Zam} {prim:Zbz} {bf:Nat->Bool} {m:Nat} {live:List Nat} {ms en b1:Nat} {aslE:List AOp} {c2 c3:Zv} {rs:List Zda}
theorem ZhU {es:List (AVal×AVal)}:∀ (a b:List (AVal×AVal)) (tm:Tms) (σ:Za),Zdy fs prim bf m live ms en b1 aslE c2 es (a++b) tm σ=match Zdy fs prim bf m live ms en b1 aslE c2 es a tm σ with
  | some (tm',σ')=>Zdy fs prim bf m live ms en b1 aslE c2 es b tm' σ'
  | none=>none
 | [],b,tm,σ=>rfl
 | x::a,b,tm,σ=>by
  simp only [X1,Zdy]
  split
  ·exact ZhU a b _ _
  ·rfl
end
theorem ZhT {I:Imm} {β:Bmap} {tm:Tms} {a:Act} {d:Nat} {u:Value} (T:TR I β tm a.tmps) (hd:tget tm d=.top):TR I β tm (a.put (some d) u).tmps:=by
 intro n
 by_cases e:d=n
 ·subst e;rw [hd];simp only [VR]
 ·rw [pgn e];exact T n
theorem ZDI {m:Nat} {live:List Nat} {tm:Tms} {σ:Za} {d:Nat} (hd:d ∉ live):tget (gcT m (keepL live tm) σ).1 d=.top:=by
 have key:∀ (l:List Nat) (xs:List AVal),d ∉ l->tget (l.zip xs) d=.top:=by
  intro l
  induction l with
  | nil=>intro xs _;rfl
  | cons x l ih =>
   intro xs h
   cases xs with
   | nil=>rfl
   | cons y ys =>
    simp only [List.zip_cons_cons,tget]
    rw [if_neg (by rintro rfl;exact h (by simp))]
    exact ih ys (fun hm=>h (by simp [hm]))
 have e:(keepL live tm).map (·.1)=live:=by simp [keepL,List.map_map,Function.comp_def]
 show tget (((keepL live tm).map (·.1)).zip _) d=.top
 rw [e]
 exact key live _ hd
end
end Go.Proofs.Ytaimaokfbgmoiaa
