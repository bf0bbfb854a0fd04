/- packed -/
import Derived.Test.YtbcbhgbffjkheaaDoorMq0
import Derived.Laws.StructEq
set_option linter.unusedSimpArgs false
set_option linter.unusedVariables false
open Option.some renaming injEq→Xa,inj→Xbp
open Prod.mk renaming injEq→Xc
open List renaming getElem?_eq_some_iff→Xh,getD_eq_getElem?_getD→Xi,length_append→Xk,length_cons→Xm,map_cons→Xn,map_nil→Xo,getElem?_set→Xr,mem_append→Xs,mem_of_getElem?→Xx,take_of_length_le→Xy,replicate→XA,getElem?_eq_getElem→XB,getElem?_cons_zero→XE,all_eq_true→XF,mem_map→XG,map_append→XH,mem_cons→XI,length_map→XL,mem_singleton→XM,getElem?_take→XO,getElem?_cons_succ→XP,getElem?_set_ne→XS,all_cons→XW,getElem?_map→XX,mem_or_eq_of_mem_set→XZ,length_take→X0,flatMap_cons→X2,getElem?_eq_none_iff→X4,eq_nil_of_length_eq_zero→X5,getElem?_eq_none→X6,eq_of_mem_replicate→X9,getElem?_append_left→Wh,mem_flatMap→Wi,zip_cons_cons→Wj,mem_cons_of_mem→Wr,length_set→Ws,ext_getElem?→Wt,mem_of_mem_eraseIdx→Wu,getElem?_drop→Wx,filterMap_cons→Wz,nodup_cons→WA,getElem?_append→WF,map_map→WG,range→WK,mem_of_mem_take→WO,length_singleton→WT,isEmpty_iff→W7,take_take→Xab,drop_take→Xac,nodup_append→Xak,getElem_mem→Xap,map_set→XaJ,set_cons_zero→XaL,set_cons_succ→XaM,sublist_cons_self→XaR,drop_drop→XaS,eraseIdx_sublist→XaX,getElem?_inj→Xbg,set_set→Xbo
open Bool renaming and_eq_true→Xj,false_eq_true→Xl
open Or renaming inl→Xp,inr→Xt
open Option renaming map_eq_some_iff→Xq,bind_some→XR,map_some→XT,getD_none→Xaq,isSome_none→Xau
open Nat renaming zero_add→Xv,le_refl→XD,mul_le_mul_right→Wd,add_mul→We,add_assoc→Wf,add_zero→Wg,min_eq_left→WW,sub_self→Xam,add_comm→Xaw,lt_or_ge→Xax,lt_succ_self→XaF,mul_le_mul_left→Xa8
open Array renaming getElem?_eq_some_iff→Xz,getElem?_setIfInBounds_ne→XN,length_toList→XQ,getElem?_setIfInBounds_self_of_lt→X7,toList_push→Wn,range→W6,getElem?_modify→XaV,getElem?_toList→XaW
open ByteArray renaming size→WM
open Ne renaming symm→WV
open List.Sublist renaming refl→XaA
open Sum renaming inr→XbA
namespace Go.Proofs.YtbcbhgbffjkheaaDoor
set_option maxHeartbeats 16000000
set_option maxRecDepth 10000
section
open Go.RowKit
section
variable {P:Program}{base:Nat->Prop}{w0 w w':World}{I0 I I':Imm}{β β':Bmap}{σ σ':Za}{tm:Tms}
def OVR(I:Imm)(β:Bmap):Option AVal->Option Value->Prop
 |none,v=>v=none
 |some x,v=>∃ u,v=some u/\VR I β x u
theorem OVR.some'{x:Option AVal}{v:Option Value}(h:OVR I β x v):∀ y,x=some y->∃ u,v=some u/\VR I β y u:=by
 rintro y rfl;exact h
theorem OVR.none'{x:Option AVal}{v:Option Value}(h:OVR I β x v):x=none->v=none:=by
 rintro rfl;exact h
theorem Zzw{b:Bool}{xs:List AVal}{A:Option Addr}{cap:Nat}(hcap:xs.length<=cap)(hmax:cap<=9223372036854775807)(hA:xs=[]\/∃ b off k,A=some ⟨b,off,none⟩/\0<k/\LR I β k xs b off)(ht:ZW xs=true){k l h m:Nat}(hk:l=0\/kOk k xs=true)(hl:l<=h)(hh:h<=xs.length)(hm:h<=m)(hmc:m<=cap)(x:Bool)(hx:x=true->m=h) :
  VR I β (.lst x ((xs.take h).drop l)) (.slice (if m=l then A else A.map (·.add (l*k))) (h-l) (m-l)):=by
 simp only[VR]
 have hlen:((xs.take h).drop l).length=h-l:=by simp;omega
 refine⟨_,_,by rw[hlen],by rw[hlen];omega,by omega,fun hx'=>by rw[hlen,hx hx'],?_,Zkm (Zhx ht h) l⟩
 by_cases he:(xs.take h).drop l=[]
 ·exact Xp he
 ·have hlt:l<h:=by
   rcases Xax l h with h1 |h1
   ·exact h1
   ·exact absurd (X5 (by rw[hlen];omega)) he
  rcases hA with rfl |⟨b',off,k',rfl,hk',hL⟩
  ·simp at he
  ·have hml:¬m=l:=by omega
   refine Xt ⟨b',off+l*k,k',?_,hk',?_⟩
   ·rw[if_neg hml];simp[Addr.add_mid]
   ·have hkk:l*k=l*k':=by
     rcases hk with rfl |hk
     ·simp
     ·have hne:xs≠[]:=by rintro rfl;simp at he
      rw[Ztl hk (ZzL hL) hne]
    rw[hkk]
    exact ZtH (ZqI hL)
theorem ZM7 {t e : TypeId} {k : Nat} (ht : P.underlying t = some (.slice e)) (hk : ZbG P e = some k) (R : Rel base w0 I0 I β σ w) {x r : AVal} {v : Value} (hx : VR I β x v) {lo hi mx : Option AVal} {vlo vhi vmx : Option Value} (hlo : OVR I β lo vlo) (hhi : OVR I β hi vhi) (hmx : OVR I β mx vmx) (hhm : hi = none -> mx = none) {c : Cls}
    (h : Zbj σ k x lo hi mx = some (r, σ', c)) : ∃ u, (Instr.sliceAt t v vlo vhi vmx).run P w = .ok u w /\ Post base w0 I0 I β r σ' u w := by
  obtain ⟨ie, hie, hke⟩ : ∃ ie, P.info? e = some ie /\ ie.size = k := by
    unfold ZbG at hk
    cases hi : P.info? e with
    | none => simp [hi] at hk
    | some i => exact ⟨i, rfl, by simpa [hi] using hk⟩
  have run : ∀ {A : Option Addr} {len cap l h m : Nat}, (Instr.sliceBounds true len cap vlo vhi vmx).run P w = .ok (l, h, m) w ->
      (Instr.sliceAt t (.slice A len cap) vlo vhi vmx).run P w = .ok (.slice (if m = l then A else A.map (·.add (l * k))) (h - l) (m - l)) w := by
    intro A len cap l h m hr
    simp [Instr.sliceAt, Instr.slice, run_underlying ht, hr, sizeOf, typeInfo, hie, hke]
  unfold Zbj at h
  split at h
  . rename_i b xs
    simp only [VR] at hx
    obtain ⟨A, cap, rfl, h2, h3, h4, h5, h6⟩ := hx
    split at h
    . cases h
    rename_i m hm
    split at h
    . cases h
    rename_i h' hh
    split at h
    . cases h
    rename_i l hl
    split at h
    case isFalse => cases h
    rename_i hk0
    have hk0' : l = 0 \/ kOk k xs = true := by simpa using hk0
    obtain ⟨hr, hlh, hhm', hmd⟩ := ZjG (P := P) (w := w) true hlo.some' hlo.none' hhi.some' hhi.none' hmx.some' hmx.none' h2 hhm hm hh hl
    have hhle : h' <= xs.length := by
      cases hi with
      | none => simp only [ZaN, Xa] at hh; omega
      | some y => have := hhm' rfl; omega
    have hhm2 : h' <= m := by
      cases hi with
      | none => rw [hhm rfl] at hm; simp only [ZaN, Xa] at hm hh; omega
      | some y => exact hhm' rfl
    split at h
    . rename_i hmx'
      simp only [Xa, Xc] at h
      obtain ⟨rfl, rfl, rfl⟩ := h
      rw [if_pos hmx'] at hr
      exact ⟨_, run hr, Post.here R (Zzw (b := b) h2 h3 h5 h6 hk0' hlh hhle hhm2 (by omega) _ (fun e => by simpa using (by simpa using e : h' = m).symm))⟩
    . rename_i hmx'
      simp only [Xa, Xc] at h
      obtain ⟨rfl, rfl, rfl⟩ := h
      rw [if_neg hmx'] at hr
      refine ⟨_, run hr, Post.here R (Zzw (b := b) h2 h3 h5 h6 hk0' hlh hhle (by omega) (XD _) _ (fun e => ?_))⟩
      simp only [Xj, beq_iff_eq] at e
      rw [h4 e.1, e.2]
  . rename_i t' g p n
    split at h
    . cases h
    rename_i els hels
    have hx0 := hx
    simp only [VR] at hx
    obtain ⟨bi, f1, f2, f3, f4⟩ := hx
    obtain ⟨A, hv⟩ : ∃ A, v = .slice A n (bi.cap - p) := by
      rcases f4 with ⟨b, _, rfl⟩ | ⟨_, hc, A, rfl⟩ | ⟨_, hc, hn, A, rfl⟩
      . exact ⟨_, rfl⟩
      . exact ⟨A, by rw [hc, show n = 0 by omega, Nat.zero_sub]⟩
      . exact ⟨A, by rw [hn, <- hc, Xam]⟩
    have row : ∀ {k' : Nat} {xs : List AVal} {h' l : Nat}, bi.k = k -> xs.length <= bi.cap -> p + n <= xs.length -> vmx = none -> mx = none -> ZaN hi n (xs.length - p) = some h' -> ZaN lo 0 h' = some l ->
        ∃ u, (Instr.sliceAt t v vlo vhi vmx).run P w = .ok u w /\ VR I β (.sl t' g (p + l) (h' - l)) u := by
      intro k' xs h' l hbk hxc hpn hv1 hv2 hh hl
      subst hv1 hv2
      obtain ⟨hr, hlh, hhm', hmd⟩ := ZjG (P := P) (w := w) true (len := n) (cap := bi.cap - p) (d := xs.length - p) (mx := none) (vmx := none) hlo.some' hlo.none' hhi.some' hhi.none' (by simp) (by simp) (by omega) (fun _ => rfl) (m := xs.length - p) rfl hh hl
      have hhn : h' <= bi.cap - p := by
        cases hi with
        | none => simp only [ZaN, Xa] at hh; omega
        | some y => have := hhm' rfl; omega
      rw [hv]
      simp only [Xau, Xl, if_false] at hr
      refine ⟨_, run hr, ?_⟩
      simp only [VR]
      refine ⟨bi, f1, by omega, f3, ?_⟩
      rcases f4 with ⟨b, hb, hv'⟩ | ⟨hb, hc, A', hv'⟩ | ⟨hp, hc, hn, A', hv'⟩
      . rw [hv] at hv'; injection hv' with hv'; subst hv'
        by_cases hcl : bi.cap - p = l
        . rw [if_pos hcl]
          by_cases hz : p + l = 0
          . have hp0 : p = 0 := by omega
            have hl0 : l = 0 := by omega
            subst hp0 hl0
            exact Xp ⟨b, hb, by simp⟩
          . exact Xt (Xt ⟨by omega, by omega, by omega, _, by rw [show h' - l = 0 by omega, show bi.cap - p - l = 0 by omega]⟩)
        . rw [if_neg hcl]
          refine Xp ⟨b, hb, ?_⟩
          simp only [XT, Addr.add_mid, <- hbk, <- We]
          rw [Nat.sub_sub]
      . refine Xt (Xp ⟨hb, hc, ?_⟩)
        rw [hc]
        exact ⟨A, by simp [show h' = 0 by omega, show l = 0 by omega]⟩
      . refine Xt (Xt ⟨by omega, by omega, by omega, ?_⟩)
        exact ⟨_, by rw [show h' - l = 0 by omega, show bi.cap - p - l = 0 by omega]⟩
    split at h
    . rename_i m0
      split at h
      . rename_i q1 hq1
        split at h
        . rename_i q2 hq2
          split at h
          . rename_i q3 hq3
            simp only [Xa, Xc] at h
            obtain ⟨rfl, rfl, rfl⟩ := h
            have hq1' : q1 = 0 := by
              unfold Zb0 at hq1; split at hq1
              . split at hq1
                . injection hq1 with hq1; omega
                . cases hq1
              . cases hq1
            subst hq1'
            cases hi with
            | none => cases hhm rfl
            | some y =>
              obtain ⟨hr, hlh, hhm', hmd⟩ := ZjG (P := P) (w := w) true (len := n) (cap := bi.cap - p) (d := 0) hlo.some' hlo.none' hhi.some' hhi.none' hmx.some' hmx.none' (Nat.zero_le _) hhm (m := 0) (h := q2) (l := q3) hq1 hq2 (by
                have : q2 = 0 := by
                  unfold ZaN Zb0 at hq2; simp only at hq2; split at hq2
                  . split at hq2
                    . injection hq2 with hq2; omega
                    . cases hq2
                  . cases hq2
                rw [this]; exact hq3)
              have hq2' : q2 <= 0 := hhm' rfl
              have e2 : q2 = 0 := by omega
              have e3 : q3 = 0 := by omega
              subst e2 e3
              rw [hv]
              refine ⟨_, run hr, Post.here R ?_⟩
              simp only [VR]
              exact ⟨A, 0, by simp, by simp, by simp, by simp, Xp trivial, by simp [ZW]⟩
          . cases h
        . cases h
      . split at h
        . rename_i q1 hq1
          split at h
          . rename_i q2 hq2
            split at h
            . rename_i q3 hq3
              simp only [Xa, Xc] at h
              obtain ⟨rfl, rfl, rfl⟩ := h
              cases hi with
              | none => cases hhm rfl
              | some y =>
                obtain ⟨hr, hlh, hhm', hmd⟩ := ZjG (P := P) (w := w) true (len := n) (cap := bi.cap - p) (d := n) hlo.some' hlo.none' hhi.some' hhi.none' hmx.some' hmx.none' (by omega) hhm (m := q1) (h := q2) (l := q3) hq1 hq2 hq3
                rw [hv]
                refine ⟨_, run hr, Post.here R ?_⟩
                simp only [VR]
                exact ⟨rfl, rfl⟩
            . cases h
          . cases h
        . cases h
    . have hmx0 : vmx = none := hmx
      split at h
      . rename_i g' k' xs hs
        split at h
        case isFalse => cases h
        rename_i hkk
        split at h
        . cases h
        rename_i h' hh
        split at h
        . cases h
        rename_i l hl
        simp only [Xa, Xc] at h
        obtain ⟨rfl, rfl, rfl⟩ := h
        simp only [Zq, hs] at hels
        split at hels
        case isFalse => cases hels
        rename_i hc
        obtain ⟨bi', e1, e2, _, _, e5, _⟩ := R.blk _ _ hs
        rw [hc.1, f1] at e1
        injection e1 with e1; subst e1
        obtain ⟨u, h1, h2⟩ := row (k' := k') (by rw [e2]; exact hkk) e5 hc.2 hmx0 rfl hh hl
        exact ⟨u, h1, Post.here R h2⟩
      . rename_i g' k' xs hs
        split at h
        case isFalse => cases h
        rename_i hkk
        split at h
        . cases h
        rename_i h' hh
        split at h
        . cases h
        rename_i l hl
        simp only [Xa, Xc] at h
        obtain ⟨rfl, rfl, rfl⟩ := h
        simp only [Zq, hs] at hels
        split at hels
        case isFalse => cases hels
        rename_i hc
        obtain ⟨bi', e1, e2, _, _, e5, _⟩ := R.blk _ _ hs
        rw [hc.1, f1] at e1
        injection e1 with e1; subst e1
        obtain ⟨u, h1, h2⟩ := row (k' := k') (by rw [e2]; exact hkk) e5 hc.2 hmx0 rfl hh hl
        exact ⟨u, h1, Post.here R h2⟩
      . cases h
  . cases h
theorem ZDP{t:TypeId}(ht:P.underlying t=some .string){s:List UInt8}(hs:s.length<=9223372036854775807){lo hi:Option AVal}{vlo vhi:Option Value}(hlo:OVR I β lo vlo)(hhi:OVR I β hi vhi){h l:Nat}(h1:ZaN hi s.length s.length=some h)(h2:ZaN lo 0 h=some l) :
  (Instr.sliceAt t (.string ⟨s.toArray⟩) vlo vhi none).run P w=.ok (.string ⟨((s.take h).drop l).toArray⟩) w:=by
 have hsz:WM ⟨s.toArray⟩=s.length:=by simp[WM]
 obtain⟨hr,hlh,_,_⟩:=ZjG (P:=P) (w:=w) false (len:=s.length) (cap:=s.length) (d:=s.length) (mx:=none) (vmx:=none) hlo.some' hlo.none' hhi.some' hhi.none' (by simp) (by simp) (XD _) (fun _=>rfl) (m:=s.length) rfl h1 h2
 simp only[Xau,Xl,if_false]at hr
 simp[Instr.sliceAt,Instr.slice,run_underlying ht,hsz,hr]
 apply ByteArray.ext
 apply Array.ext'
 simp[ByteArray.data_extract,Xac]
theorem ZR4{s:TypeId}{fields:Array Field}{i:Nat}{f:Field}{k:Nat}(hs:P.underlying s=some (.struct fields))(hf:fields[i]?=some f)(hk:ZbG P f.type=some k)(hk0:k≠0){x r:AVal}{v:Value}(hx:VR I β x v)(h:faddrA f.offset x=some r) :
  ∃ u,(Instr.fieldAt s v i).run P w=.ok u w/\VR I β r u:=by
 obtain⟨ie,hie,hke⟩:∃ ie,P.info? f.type=some ie/\ie.size=k:=by
  unfold ZbG at hk
  cases hi:P.info? f.type with
  |none=>simp[hi]at hk
  |some i=>exact⟨i,rfl,by simpa[hi]using hk⟩
 have run:∀ b o,(Instr.fieldAt s (.pointer (some ⟨b,o,none⟩)) i).run P w=.ok (.pointer (some ⟨b,o+f.offset,none⟩)) w:=by
  intro b o
  simp[Instr.fieldAt,run_underlying hs,hf,Instr.sureAddr,fieldPlace,sizeOf,typeInfo,hie,hke,hk0,Addr.add_mid]
 unfold faddrA at h
 split at h
 ·injection h with h;subst h
  simp only[VR]at hx ⊢
  obtain⟨b,k',c,h1,rfl⟩:=hx
  exact⟨_,run b _,b,k',c,h1,rfl⟩
 ·injection h with h;subst h
  simp only[VR]at hx ⊢
  obtain⟨b,k',c,h1,rfl⟩:=hx
  exact⟨_,run b _,b,k',c,h1,rfl⟩
 ·injection h with h;subst h
  simp only[VR]at hx ⊢
  obtain⟨b,k',c,h1,rfl⟩:=hx
  exact⟨_,run b _,b,k',c,h1,by rw[Wf]⟩
 ·injection h with h;subst h
  simp only[VR]at hx ⊢
  obtain⟨b,off,rfl,h1,h2⟩:=hx
  exact⟨_,run b _,b,off,by rw[Wf],h1,h2⟩
 ·cases h
theorem Zy4{t:TypeId}{k:Option Nat}(hk:Zfk P t=some k){cs:List AVal}{us:Array Value}(hv:VRs I β cs us.toList){o:Nat}{x:AVal}(hp:partA k cs o=some x):∃ u,(part t us o).run P w=.ok u w/\VR I β x u:=by
 unfold Zfk at hk
 have hl:=Zae hv
 have many:∀ (d:TypeDesc) (i:TypeInfo),P.underlying t=some d->d.isRow=true->P.info? t=some i->k=some i.size->∃ u,(part t us o).run P w=.ok u w/\VR I β x u:=by
  intro d i hu hd hi e
  subst e
  simp only[partA]at hp
  split at hp
  ·rename_i hle
   injection hp with hp
   subst hp
   have hagg:(isAgg t).run P w=.ok true w:=by
    unfold isAgg
    rw[Sem.run_bind,run_underlying hu w]
    cases d<;>simp_all
   refine⟨.agg (us.extract o (o+i.size)),by simp[part,hagg,sizeOf,typeInfo,hi],?_⟩
   simp only[VR]
   refine⟨_,rfl,?_⟩
   have:=Zff (Zfr hv o) i.size
   have e:(us.extract o (o+i.size)).toList=(us.toList.drop o).take i.size:=by
    rw[Array.toList_extract,List.extract_eq_take_drop,Nat.add_sub_cancel_left]
   rw[e];exact this
  ·cases hp
 have one:∀ (d:TypeDesc),P.underlying t=some d->d.isRow=false->k=none->∃ u,(part t us o).run P w=.ok u w/\VR I β x u:=by
  intro d hu hd e
  subst e
  simp only[partA]at hp
  obtain⟨u,h1,h2⟩:=Zcc hv hp
  refine⟨u,?_,h2⟩
  have hagg:(isAgg t).run P w=.ok false w:=by
   unfold isAgg
   rw[Sem.run_bind,run_underlying hu w]
   cases d<;>simp_all[TypeDesc.isRow]
  have h1':us[o]?=some u:=by simpa using h1
  simp[part,hagg,h1']
 split at hk
 ·rename_i hu hi;injection hk with hk;exact many _ _ hu rfl hi hk.symm
 ·rename_i hu hi;injection hk with hk;exact many _ _ hu rfl hi hk.symm
 ·rename_i d i hu hi hn1 hn2
  split at hk
  ·injection hk with hk
   refine one d hn1 ?_ hk.symm
   cases d<;>simp_all[TypeDesc.isRow]
  ·cases hk
 ·cases hk
theorem ZBx{t e:TypeId}{k:Nat}(ht:P.underlying t=some (.slice e))(hk:ZbG P e=some k)(R:Rel base w0 I0 I β σ w){x i r:AVal}{v vi:Value}(hx:VR I β x v)(hi:VR I β i vi){c:Cls}(h:Zct σ k x i=some (r,σ',c)) :
  ∃ u,(Instr.indexAt t v vi).run P w=.ok u w/\VR I β r u/\σ'=σ:=by
 obtain⟨ie,hie,hke⟩:∃ ie,P.info? e=some ie/\ie.size=k:=by
  unfold ZbG at hk
  cases hi:P.info? e with
  |none=>simp[hi]at hk
  |some i=>exact⟨i,rfl,by simpa[hi]using hk⟩
 have run:∀ {b o len cap:Nat} {kk:IntKind} {i:Int},0<=i->i.toNat<len->(Instr.indexAt t (.slice (some ⟨b,o,none⟩) len cap) (.int kk i)).run P w=.ok (.pointer (some ⟨b,o+i.toNat*k,none⟩)) w:=by
  intro b o len cap kk i h0 h1
  simp[Instr.indexAt,asIntOf,run_underlying ht,h0,show i<(len:Int)by omega,sizeOf,typeInfo,hie,hke,Addr.add_mid]
 unfold Zct at h
 split at h
 case h_2=>cases h
 rename_i kk i
 simp only[VR]at hi
 subst hi
 split at h
 case isFalse=>cases h
 rename_i h0
 split at h
 ·rename_i b xs
  split at h
  ·rename_i y hy
   split at h
   ·rename_i hyk
    simp only[Xa,Xc]at h
    obtain⟨rfl,rfl,rfl⟩:=h
    have hlt:=(Xh.1 hy).1
    simp only[VR]at hx
    obtain⟨A,cap,rfl,h2,h3,h4,h5,h6⟩:=hx
    rcases h5 with rfl |⟨b',off,k',rfl,hk',hL⟩
    ·simp at hy
    obtain⟨q1,q2⟩:=Znu hL hy
    have : k'=k:=by omega
    subst this
    refine⟨_,run h0 hlt,?_,rfl⟩
    simp only[VR]
    exact⟨b',_,rfl,q2,Zdg.1 h6 y (Xx hy)⟩
   ·cases h
  ·cases h
 ·rename_i t' g p n
  split at h
  case isFalse=>cases h
  rename_i hlt
  have fin:∀ bi,β t' g=some bi->bi.k=k->r=.eref t' g (p+i.toNat) 0->∃ u,(Instr.indexAt t v (.int kk i)).run P w=.ok u w/\VR I β r u:=by
   intro bi hb hbk hr
   subst hr
   simp only[VR]at hx
   obtain⟨bi',f1,f2,f3,f4⟩:=hx
   rw[hb]at f1;injection f1 with f1;subst f1
   rcases f4 with⟨b,hbb,rfl⟩ |⟨_,hc,_⟩ |⟨_,_,hn,_⟩
   ·refine⟨_,run h0 hlt,?_⟩
    simp only[VR]
    refine⟨b,bi.k,bi.cap,?_,by rw[hbk,Wg,We]⟩
    rw[hb]
    cases bi
    simp_all
   ·omega
   ·omega
  split at h
  ·rename_i g' k' xs hs
   split at h
   ·rename_i hc
    simp only[Xa,Xc]at h
    obtain⟨hr,rfl,rfl⟩:=h
    obtain⟨bi,e1,e2,_⟩:=R.blk _ _ hs
    rw[hc.1]at e1
    obtain⟨u,hu1,hu2⟩:=fin bi e1 (by rw[e2];exact hc.2) hr.symm
    exact⟨u,hu1,hu2,rfl⟩
   ·cases h
  ·rename_i g' k' xs hs
   split at h
   ·rename_i hc
    simp only[Xa,Xc]at h
    obtain⟨hr,rfl,rfl⟩:=h
    obtain⟨bi,e1,e2,_⟩:=R.blk _ _ hs
    rw[hc.1]at e1
    obtain⟨u,hu1,hu2⟩:=fin bi e1 (by rw[e2];exact hc.2) hr.symm
    exact⟨u,hu1,hu2,rfl⟩
   ·cases h
  ·rename_i g' k' xs hs
   split at h
   ·rename_i hc
    simp only[Xa,Xc]at h
    obtain⟨hr,rfl,rfl⟩:=h
    obtain⟨bi,e1,e2,_⟩:=R.blk _ _ hs
    rw[hc.1]at e1
    obtain⟨u,hu1,hu2⟩:=fin bi e1 (by rw[e2];exact hc.2) hr.symm
    exact⟨u,hu1,hu2,rfl⟩
   ·cases h
  ·cases h
 ·cases h
theorem ZIQ{t e:TypeId}{n k:Nat}(ht:P.underlying t=some (.array n e))(hk:ZbG P e=some k){x r:AVal}{v:Value}(hx:VR I β x v){kk:IntKind}{i:Int}(h0:0<=i)(h1:i<n)(h:faddrA (i.toNat*k) x=some r) :
  ∃ u,(Instr.indexAt t v (.int kk i)).run P w=.ok u w/\VR I β r u:=by
 obtain⟨ie,hie,hke⟩:∃ ie,P.info? e=some ie/\ie.size=k:=by
  unfold ZbG at hk
  cases hi:P.info? e with
  |none=>simp[hi]at hk
  |some i=>exact⟨i,rfl,by simpa[hi]using hk⟩
 have run:∀ b o,(Instr.indexAt t (.pointer (some ⟨b,o,none⟩)) (.int kk i)).run P w=.ok (.pointer (some ⟨b,o+i.toNat*k,none⟩)) w:=by
  intro b o
  simp[Instr.indexAt,asIntOf,run_underlying ht,Instr.sureAddr,h0,h1,sizeOf,typeInfo,hie,hke,Addr.add_mid]
 unfold faddrA at h
 split at h
 ·injection h with h;subst h
  simp only[VR]at hx ⊢
  obtain⟨b,k',c,h1,rfl⟩:=hx
  exact⟨_,run b _,b,k',c,h1,rfl⟩
 ·injection h with h;subst h
  simp only[VR]at hx ⊢
  obtain⟨b,k',c,h1,rfl⟩:=hx
  exact⟨_,run b _,b,k',c,h1,rfl⟩
 ·injection h with h;subst h
  simp only[VR]at hx ⊢
  obtain⟨b,k',c,h1,rfl⟩:=hx
  exact⟨_,run b _,b,k',c,h1,by rw[Wf]⟩
 ·injection h with h;subst h
  simp only[VR]at hx ⊢
  obtain⟨b,off,rfl,h1,h2⟩:=hx
  exact⟨_,run b _,b,off,by rw[Wf],h1,h2⟩
 ·cases h
end
end
section
open Go.RowKit
section
variable {P:Program}{base:Nat->Prop}{w0 w w':World}{I0 I I':Imm}{β β':Bmap}{σ σ':Za}{tm:Tms}
theorem Zwq(off:Nat):∀ (l:List Value) (j0:Nat) (cells:Array Value),off+j0+l.length<=cells.size ->
  ((l.zipIdx j0).foldl (fun cs p=>cs.setIfInBounds (off+p.2) p.1) cells).toList=cells.toList.take (off+j0)++l++cells.toList.drop (off+j0+l.length)
 | [],j0,cells,_=>by simp
 |v::l,j0,cells,h=>by
  simp only[Xm]at h
  rw[List.zipIdx_cons,List.foldl_cons,Zwq off l (j0+1) _ (by simp;omega)]
  apply Wt
  intro j
  simp only[Array.toList_setIfInBounds,WF,XO,Wx,Xk,X0,Xm,Ws,XQ,Xr,List.getElem?_cons]
  have e1:min (off+(j0+1)) cells.size=off+j0+1:=by omega
  have e2:min (off+j0) cells.size=off+j0:=by omega
  rw[e1,e2]
  by_cases c1:j<off+j0
  ·simp only[show j<off+(j0+1)by omega,show j<off+j0+1 by omega,show j<off+j0+1+l.length by omega,show j<off+j0+(l.length+1)by omega,c1,if_true,show off+j0≠j by omega,if_false]
  ·by_cases c2:j=off+j0
   ·subst c2
    simp only[show off+j0<off+(j0+1)by omega,show off+j0<off+j0+1 by omega,show off+j0<off+j0+1+l.length by omega,show off+j0<off+j0+(l.length+1)by omega,if_true,Nat.lt_irrefl,if_false,Xam,show off+j0<cells.size by omega]
   ·by_cases c3:j<off+j0+1+l.length
    ·simp only[c3,show j<off+j0+(l.length+1)by omega,show¬j<off+j0+1 by omega,c1,if_true,if_false,show¬j-(off+j0)=0 by omega]
     first |done |(congr 1;omega) |rfl
    ·simp only[c3,show¬j<off+j0+(l.length+1)by omega,if_false]
     rw[show off+(j0+1)+l.length+(j-(off+j0+1+l.length))=j by omega,show off+j0+(l.length+1)+(j-(off+j0+(l.length+1)))=j by omega,if_neg (by omega)]
theorem Zy6(off:Nat)(v:Value)(cells:Array Value)(h:off+v.cells.size<=cells.size) :
  (v.cells.zipIdx.foldl (fun cs (c,j)=>cs.setIfInBounds (off+j) c) cells).toList=cells.toList.take off++v.cells.toList++cells.toList.drop (off+v.cells.toList.length):=by
 have:=Zwq off v.cells.toList 0 cells (by simpa using h)
 rw[<-Array.foldl_toList]
 simpa using this
def Ze1(I:Imm)(β:Bmap)(place:Nat->Option (Nat×Nat)):List (Nat×Nat×AVal)->List (Nat×Value)->Prop
 | [],vs=>vs=[]
 |(off,k,x)::r,vs=>∃ i v vs',vs=(i,v)::vs'/\place i=some (off,k)/\VR I β x v/\Ze1 I β place r vs'
theorem Zs7(place:Nat->Option (Nat×Nat)):∀ {ps:List (Nat×Nat×AVal)} {vs:List (Nat×Value)} {zs cs:List AVal} {zc:Array Value},Ze1 I β place ps vs->VRs I β zs zc.toList->Z3 zs ps=some cs ->
  ∃ cells,Instr.fill place zc vs=some cells/\VRs I β cs cells.toList
 | [],vs,zs,cs,zc,hp,hz,h=>by
  simp only[Ze1]at hp;subst hp
  simp only[Z3,Xa]at h;subst h
  exact⟨zc,rfl,hz⟩
 |(off,k,x)::ps,vs,zs,cs,zc,hp,hz,h=>by
  simp only[Ze1]at hp
  obtain⟨i,v,vs',rfl,h1,h2,h3⟩:=hp
  simp only[Z3]at h
  split at h
  ·rename_i hc
   have hnt:=ZHr hc.2.2
   have hl:=Zhb hnt h2
   have hzl:=Zae hz
   simp only[XQ]at hzl
   have hle:off+v.cells.size<=zc.size:=by omega
   have hset:VRs I β (setAt zs off x.cells) (v.cells.zipIdx.foldl (fun cs (c,j)=>cs.setIfInBounds (off+j) c) zc).toList:=by
    rw[Zy6 off v zc hle]
    exact Zkl hz (ZdV hnt h2) off
   obtain⟨cells,g1,g2⟩:=Zs7 place h3 hset h
   refine⟨cells,?_,g2⟩
   simp only[Instr.fill,h1]
   rw[if_neg (by simp;omega)]
   exact g1
  ·cases h
theorem Zyx:∀ (fs:List Field),fs.all (fun f=>(P.info? f.type).isSome)=true->∃ places,fs.mapM (fun f=>(P.info? f.type).map fun i=>(f.offset,i.size))=some places/\∀ (j:Nat) (f:Field) (k:Nat),fs[j]?=some f->ZbG P f.type=some k->places[j]?=some (f.offset,k)
 | [],_=>⟨[],by simp,by simp⟩
 |f::fs,h=>by
  simp only[XW,Xj]at h
  obtain⟨places,h1,h2⟩:=Zyx fs h.2
  obtain⟨i,hi⟩:=Option.isSome_iff_exists.1 h.1
  refine⟨(f.offset,i.size)::places,by simp[List.mapM_cons,hi,h1],?_⟩
  intro j g k hj hk
  cases j with
  |zero =>
   simp only[XE,Xa]at hj;subst hj
   simp only[ZbG,hi,XT,Xa]at hk;subst hk
   rfl
  |succ j=>simp only[XP]at hj ⊢;exact h2 j g k hj hk
theorem Zw9{a:Act}(T:TR I β tm a.tmps){fields:Array Field}{place:Nat->Option (Nat×Nat)}(hpl:∀ j f k,fields[j]?=some f->ZbG P f.type=some k->place j=some (f.offset,k)) :
  ∀ {parts:List (Nat×Operand)} {ps:List (Nat×Nat×Opd)},ZjD P fields parts=some ps->Ze1 I β place (ps.map fun p=>(p.1,p.2.1,p.2.2.ev tm)) (parts.map fun(i,x)=>(i,a.eval x))
 | [],ps,h=>by simp only[ZjD,Xa]at h;subst h;simp[Ze1]
 |(i,x)::r,ps,h=>by
  simp only[ZjD]at h
  split at h
  ·rename_i f hf
   split at h
   ·rename_i k y ps' hk hy hps
    injection h with h;subst h
    simp only[Xn,Ze1]
    exact⟨i,a.eval x,_,rfl,hpl i f k hf hk,Z4 T hy,Zw9 T hpl hps⟩
   ·cases h
  ·cases h
theorem ZtN{a:Act}(T:TR I β tm a.tmps){k:Nat} :
  ∀ {parts:List (Nat×Operand)} {ps:List (Nat×Nat×Opd)},Zjq k parts=some ps->Ze1 I β (fun i=>some (i*k,k)) (ps.map fun p=>(p.1,p.2.1,p.2.2.ev tm)) (parts.map fun(i,x)=>(i,a.eval x))
 | [],ps,h=>by simp only[Zjq,Xa]at h;subst h;simp[Ze1]
 |(i,x)::r,ps,h=>by
  simp only[Zjq]at h
  split at h
  ·rename_i y ps' hy hps
   injection h with h;subst h
   simp only[Xn,Ze1]
   exact⟨i,a.eval x,_,rfl,rfl,Z4 T hy,ZtN T hps⟩
  ·cases h
theorem ZAe{a:Act}(T:TR I β tm a.tmps){t:TypeId}{parts:Array (Nat×Operand)}{an:Ann}{own:Nat}{zs:List AVal}{ps:List (Nat×Nat×Opd)}(hc:ZU P an own (.build t parts)=some (.build zs ps)){cs:List AVal}(h:Z3 zs (ps.map fun p=>(p.1,p.2.1,p.2.2.ev tm))=some cs) :
  ∃ u,(Instr.build t (parts.map fun(i,x)=>(i,a.eval x))).run P w=.ok u w/\VR I β (.agg cs) u:=by
 simp only[ZU]at hc
 have zero:∀ z,Zdk P t=some z->∃ i v,P.info? t=some i/\i.zero=some v/\VRs I β z.cells v.cells.toList:=by
  intro z hz
  unfold Zdk at hz
  split at hz
  ·rename_i i hi
   split at hz
   ·rename_i v hv
    exact⟨i,v,hi,hv,ZdV (ZfR hz) (Zft hz).1⟩
   ·cases hz
  ·cases hz
 split at hc
 ·rename_i fields z hu hz
  split at hc
  ·rename_i hall
   simp only[Xq]at hc
   obtain⟨ps',hps,he⟩:=hc
   injection he with e1 e2;subst e1 e2
   obtain⟨i,v,hi,hv,hzv⟩:=zero z hz
   obtain⟨places,hp1,hp2⟩:=Zyx (P:=P) fields.toList hall
   obtain⟨cells,g1,g2⟩:=Zs7 (places.toArray[·]?) (Zw9 (a:=a) T (place:=(places.toArray[·]?)) (fun j f k hj hk=>by simpa using hp2 j f k (by simpa using hj) hk) hps) hzv h
   refine⟨.agg cells,run_build w t _ cells ?_,by simp only[VR];exact⟨cells,rfl,g2⟩⟩
   simp only[Program.built,hi,hu,hv,hp1]
   simpa using g1
  ·cases hc
 ·rename_i n e z hu hz
  split at hc
  ·rename_i k hk
   simp only[Xq]at hc
   obtain⟨ps',hps,he⟩:=hc
   injection he with e1 e2;subst e1 e2
   obtain⟨i,v,hi,hv,hzv⟩:=zero z hz
   obtain⟨ie,hie,hke⟩:∃ ie,P.info? e=some ie/\ie.size=k:=by
    unfold ZbG at hk
    cases hi:P.info? e with
    |none=>simp[hi]at hk
    |some i=>exact⟨i,rfl,by simpa[hi]using hk⟩
   obtain⟨cells,g1,g2⟩:=Zs7 (fun i=>some (i*k,k)) (ZtN (a:=a) T hps) hzv h
   refine⟨.agg cells,run_build w t _ cells ?_,by simp only[VR];exact⟨cells,rfl,g2⟩⟩
   simp only[Program.built,hi,hu,hv,hie,hke]
   simpa using g1
  ·cases hc
 ·cases hc
theorem ZtU{z:AVal}{k:Nat}(hz:z.cells.length=k)(hk:0<k):∀ (n j:Nat),j<n*k->((XA n z).flatMap AVal.cells)[j]?=z.cells[j%k]?
 |0,j,h=>by simp at h
 |n+1,j,h=>by
  rw[List.replicate_succ,X2,WF]
  split
  ·rename_i hj;rw[Nat.mod_eq_of_lt (by omega)]
  ·rename_i hj
   rw[We]at h
   rw[ZtU hz hk n (j-z.cells.length) (by omega),hz]
   congr 1
   rw[<-Nat.mod_eq_sub_mod (by omega)]
theorem Zld{z:AVal}{v:Value}{k:Nat}(hnt:z≠.top)(hz:VR I β z v)(hl:z.cells.length=k)(hk:0<k)(n:Nat):VRs I β ((XA n z).flatMap AVal.cells) ((W6 (n*k)).map (v.cells[· % v.cells.size]!)).toList:=by
 have hv:=ZdV hnt hz
 have hvl:=Zhb hnt hz
 have hfl:((XA n z).flatMap AVal.cells).length=n*k:=by rw[Ze9 (k:=k) (by intro x hx;rw[X9 hx];exact hl)];simp
 refine ZdK (by rw[hfl];simp) (fun j x u hx hu=>?_)
 have hj:j<n*k:=by have:=(Xh.1 hx).1;omega
 rw[ZtU hl hk n j hj]at hx
 obtain⟨u',h1,h2⟩:=Zcc hv hx
 have hjk:j%k<v.cells.size:=by rw[hvl,hl];exact Nat.mod_lt _ hk
 simp only[Array.toList_map,Array.toList_range,XX,List.getElem?_range hj,XT,Xa]at hu
 rw[hvl,hl]at hu
 have : v.cells[j%k]! = u':=by
  rw[getElem!_pos v.cells (j%k) hjk]
  have h1':v.cells[j%k]?=some u':=by simpa using h1
  rw[Array.getElem?_eq_getElem hjk]at h1'
  injection h1'
 rw[this]at hu
 subst hu
 exact h2
theorem Zrt{k:Nat}:∀ {is:List Nat} {ys:List AVal} {vs:List Value} {xs:List AVal} {cells:Array Value},is.length=ys.length->(∀ y∈ys,y≠.top)->VRs I β ys vs->(∀ y∈ys,y.cells.length=k)->(∀ i∈is,i<xs.length)->(∀ x∈xs,x.cells.length=k)->VRs I β (xs.flatMap AVal.cells) cells.toList ->
  ∃ cells',Instr.fill (fun i=>some (i*k,k)) cells (is.zip vs)=some cells'/\VRs I β (((is.zip ys).foldl (fun l p=>l.set p.1 p.2) xs).flatMap AVal.cells) cells'.toList/\(∀ x∈(is.zip ys).foldl (fun l p=>l.set p.1 p.2) xs,x.cells.length=k)/\((is.zip ys).foldl (fun l p=>l.set p.1 p.2) xs).length=xs.length/\cells'.size=cells.size
 | [],ys,vs,xs,cells,hl,_,hv,hk,hi,hx,hc=>by
  have : ys=[]:=X5 (by simpa using hl.symm)
  subst this
  exact⟨cells,by simp[Instr.fill],by simpa using hc,by simpa using hx,rfl,rfl⟩
 |i::is,[],vs,xs,cells,hl,_,hv,hk,hi,hx,hc=>by simp at hl
 |i::is,y::ys,vs,xs,cells,hl,hnt,hv,hk,hi,hx,hc=>by
  simp only[VRs]at hv
  obtain⟨v,vs',rfl,hv1,hv2⟩:=hv
  have hil:i<xs.length:=hi i (by simp)
  have hyk:=hk y (by simp)
  have hcl:=Zhb (hnt y (by simp)) hv1
  have hfl:=Ze9 hx
  have hcs:=Zae hc
  simp only[XQ]at hcs
  have hmul:=ZrB (k:=k) hil
  have hset:VRs I β ((xs.set i y).flatMap AVal.cells) (v.cells.zipIdx.foldl (fun cs (c,j)=>cs.setIfInBounds (i*k+j) c) cells).toList:=by
   rw[Zy6 (i*k) v cells (by omega)]
   have hself:y.cells=setAt (xs[i]).cells 0 y.cells:=by
    unfold setAt
    rw[List.take_zero,List.nil_append,Xv,List.drop_eq_nil_of_le (by rw[hyk,hx _ (Xap hil)];exact XD _),List.append_nil]
   rw[ZkF hx (XB hil) hself (by omega),Wg]
   exact Zkl hc (ZdV (hnt y (by simp)) hv1) (i*k)
  have hx':∀ x∈xs.set i y,x.cells.length=k:=by
   intro x hm
   rcases XZ hm with hm |rfl
   ·exact hx x hm
   ·exact hyk
  obtain⟨cells',g1,g2,g3,g4,g5⟩:=Zrt (k:=k) (is:=is) (ys:=ys) (vs:=vs') (xs:=xs.set i y) (cells:=v.cells.zipIdx.foldl (fun cs (c,j)=>cs.setIfInBounds (i*k+j) c) cells) (by simpa using hl) (fun z hz=>hnt z (by simp[hz])) hv2 (fun z hz=>hk z (by simp[hz])) (fun j hj=>by simpa using hi j (by simp[hj])) hx' hset
  refine⟨cells',?_,by simpa using g2,by simpa using g3,by simpa using g4,?_⟩
  ·simp only[Wj,Instr.fill]
   rw[if_neg (by simp;omega)]
   exact g1
  ·rw[g5]
   have h1:=Zae hset
   have h2:=Ze9 hx'
   rw[Ws]at h2
   rw[XQ]at h1
   exact h1.symm.trans (h2.trans (hfl.symm.trans hcs))
end
end
section
open Go.RowKit
section
variable {P:Program}{base:Nat->Prop}{w0 w w':World}{I0 I I':Imm}{β β':Bmap}{σ σ':Za}{tm:Tms}
theorem ZtC{a:Act}(T:TR I β tm a.tmps):∀ {parts:List (Nat×Operand)} {ps:List (Nat×Opd)},ZgW parts=some ps ->
  (parts.map fun(i,x)=>(i,a.eval x))=(ps.map (·.1)).zip (parts.map fun p=>a.eval p.2)/\VRs I β (ps.map fun p=>p.2.ev tm) (parts.map fun p=>a.eval p.2)/\ps.length=parts.length
 | [],ps,h=>by simp only[ZgW,Xa]at h;subst h;exact⟨rfl,by simp[VRs],rfl⟩
 |(i,x)::r,ps,h=>by
  simp only[ZgW]at h
  split at h
  ·rename_i y ps' hy hps
   injection h with h;subst h
   obtain⟨h1,h2,h3⟩:=ZtC T hps
   refine⟨by simp[h1],?_,by simp[h3]⟩
   simp only[Xn,VRs]
   exact⟨_,_,rfl,Z4 T hy,h2⟩
  ·cases h
theorem Zjx{t:TypeId}{k bytes:Nat}{z:AVal}(h:Zet P t=some (k,bytes,z)):∃ e i v,P.underlying t=some (.slice e)/\P.info? e=some i/\i.size=k/\i.bytes=bytes/\i.zero=some v/\ZgX v=some z/\0<k/\0<bytes/\z.cells.length=k:=by
 unfold Zet at h
 split at h
 ·rename_i e hu
  split at h
  ·rename_i i z' hi hz
   split at h
   ·rename_i hc
    simp only[Xa,Xc]at h
    obtain⟨rfl,rfl,rfl⟩:=h
    unfold Zdk at hz
    rw[hi]at hz
    simp only at hz
    split at hz
    ·rename_i v hv
     exact⟨e,i,v,hu,hi,rfl,rfl,hv,hz,hc.1,hc.2.1,hc.2.2⟩
    ·cases hz
   ·cases h
  ·cases h
 ·cases h
theorem ZO5{k:Nat}{xs:List AVal}{us:Array Value}(hk:∀ x∈xs,x.cells.length=k)(hv:VRs I β (xs.flatMap AVal.cells) us.toList)(hI:I.le (I.add w.heap.size us)):LR (I.add w.heap.size us) β k xs w.heap.size 0 :=
 ZjI hk (VRs.mono hI (Bmap.le.refl β) _ _ hv) (fun j u hu=>by simp only[Imm.add,Xv,if_true];simpa using hu)
theorem ZML{a:Act}(T:TR I β tm a.tmps)(R:Rel base w0 I0 I β σ w)(hb:KLt base w0){t:TypeId}{n:Nat}{parts:Array (Nat×Operand)}{k bytes:Nat}{z:AVal}{own:Bool}{ps:List (Nat×Opd)}(he:Zet P t=some (k,bytes,z))(hn:n*k<=16777216)(hps:ZgW parts.toList=some ps)
  {sq:Nat} (hs:own=true->σ[sq]?=some .free) {O:ZJ} {pure':Nat->Bool} {r:AVal} {c:Cls} (h:execI O pure' tm σ sq (.bslice own k n z ps)=some (r,σ',c)) :
  ∃ u w',(Instr.buildSlice t n (parts.map fun(i,x)=>(i,a.eval x))).run P w=.ok u w'/\Post base w0 I0 I β r σ' u w':=by
 obtain⟨e,i,v,hu,hi,hik,hib,hv,hz,hk,hby,hzl⟩:=Zjx he
 obtain⟨hz1,hz2⟩:=Zft (I:=I) (β:=β) hz
 simp only[execI]at h
 split at h
 ·cases h
 rename_i ys ts hview
 split at h
 case isFalse=>cases h
 rename_i hc
 simp only[Xj,XF,beq_iff_eq,decide_eq_true_eq]at hc
 obtain⟨⟨hy,hidx⟩,_⟩:=hc
 obtain⟨c1,c2,c3⟩:=ZtC (a:=a) T hps
 obtain⟨I1,hI1,R1,hal,_,hfz,_,hoth,_⟩:=ZhX ts R
 obtain⟨v1,v2⟩:=ZrY R1 (hfz (ZmQ hview)) (by rw[hal.viewAs];exact hview) (c2.mono hI1 (Bmap.le.refl β) _ _)
 have hyl:(ps.map (·.1)).length=ys.length:=by rw[Zae v1];simp[c3]
 obtain⟨cells',g1,g2,g3,g4,g5⟩:=Zrt (I:=I1) (β:=β) (k:=k) (is:=ps.map (·.1)) (ys:=ys) (vs:=parts.toList.map fun p=>a.eval p.2) (xs:=XA n z) (cells:=(W6 (n*k)).map (v.cells[· % v.cells.size]!)) hyl (fun y hy=>ZKe (v2 y hy)) v1 hy
  (by intro j hj;simp only[XG]at hj;obtain⟨p,hp,rfl⟩:=hj;simpa using hidx p hp) (by intro x hx;rw[X9 hx];exact hzl) (Zld (ZfR hz) (hz1.mono hI1 (Bmap.le.refl β) _ _) hzl hk n)
 have hrun:(Instr.buildSlice t n (parts.map fun(i,x)=>(i,a.eval x))).run P w=.ok (.slice (some ⟨w.heap.size,0,none⟩) n n) { w with heap:=w.heap.push (.cells cells' e) }:=by
  have hpl:(parts.map fun(i,x)=>(i,a.eval x)).toList=(ps.map (·.1)).zip (parts.toList.map fun p=>a.eval p.2):=by rw[<-c1];simp
  have hle:¬16777216<n*i.size:=by rw[hik];omega
  have hle':¬2^24<n*k:=by omega
  by_cases hn0:n*k=0
  ·have hr0:W6 0=#[]:=rfl
   have g1':Instr.fill (fun i=>some (i*k,k)) #[] ((ps.map (·.1)).zip (parts.toList.map fun p=>a.eval p.2))=some cells':=by
    rw[hn0,hr0]at g1;simpa using g1
   simp only[Instr.buildSlice,Sem.run_bind,run_underlying hu,Result.andThen_ok,sizeOf,typeInfo,run_program,hi,Sem.run_pure,Sem.run_ite,hik,hn0,hpl]
   simp[hr0,g1',newRow]
  ·simp only[Instr.buildSlice,Sem.run_bind,run_underlying hu,Result.andThen_ok,sizeOf,typeInfo,run_program,hi,Sem.run_pure,Sem.run_ite,hik,hn0,hpl,zeroValue,hv,if_false]
   simp[show¬16777216<n*k by omega,g1,newRow]
 have htree:ZW (((ps.map (·.1)).zip ys).foldl (fun l p=>l.set p.1 p.2) (XA n z))=true:=by
  have aux:∀ (l:List (Nat×AVal)) (xs:List AVal),(∀ p∈l,Zai p.2.cells=true)->ZW xs=true->ZW (l.foldl (fun l p=>l.set p.1 p.2) xs)=true:=by
   intro l
   induction l with
   |nil=>intro xs _ h;exact h
   |cons p l ih =>
    intro xs hp hx
    refine ih _ (fun q hq=>hp q (by simp[hq])) ?_
    rw[Zdg]at hx ⊢
    intro x hm
    rcases XZ hm with hm |rfl
    ·exact hx x hm
    ·exact hp p (by simp)
  refine aux _ _ (fun p hp=>v2 p.2 (List.of_mem_zip hp).2) ?_
  rw[Zdg];intro x hx;rw[X9 hx];exact hz2
 have hcs:cells'.size=n*k:=by rw[g5];simp
 have hn63:n<=9223372036854775807:=by
  have : n*1<=n*k:=Xa8 n hk
  omega
 generalize ((ps.map (·.1)).zip ys).foldl (fun l p=>l.set p.1 p.2) (XA n z)=xs at *
 have hxl:xs.length=n:=by rw[g4];simp
 split at h
 ·rename_i ho
  simp only[Xa,Xc]at h
  obtain⟨rfl,rfl,rfl⟩:=h
  have hs1:(Zj σ ts)[sq]?=some .free:=by
   refine hoth sq _ ?_ (hs ho)
   intro hm
   obtain⟨g,k',xs',hx |hx⟩:=ZmQ hview sq hm<;>(rw[hs ho]at hx;cases hx)
  obtain⟨R',hle⟩:=R1.newOwn hb hs1 cells' e (.row 0 k xs) k n (Xt ⟨xs,rfl,hk,hn63,by omega,htree,g3,hcs,by rw[Xy (by simp[hcs,hxl])];exact g2⟩)
  refine⟨_,_,hrun,Post.mk hI1 hle R' ?_⟩
  rw[ZcV]
  exact⟨_,Bmap.put_same β sq 0 _,XD _,hn63,Xp ⟨_,rfl,rfl⟩⟩
 ·simp only[Xa,Xc]at h
  obtain⟨rfl,rfl,rfl⟩:=h
  obtain⟨R',hI⟩:=R1.newImm hb cells' e (0,0)
  refine⟨_,_,hrun,Post.mk (hI1.trans hI) (Bmap.le.refl β) R' ?_⟩
  simp only[VR]
  refine⟨some ⟨w.heap.size,0,none⟩,n,by rw[hxl],by omega,hn63,fun _=>hxl.symm,?_,htree⟩
  by_cases hx0:xs=[]
  ·exact Xp hx0
  ·exact Xt ⟨w.heap.size,0,k,rfl,hk,ZO5 g3 g2 hI⟩
theorem ZAZ{a:Act}(T:TR I β tm a.tmps)(R:Rel base w0 I0 I β σ w)(hb:KLt base w0){t:TypeId}{n:Nat}{parts:Array (Nat×Operand)}{k bytes:Nat}{z:AVal}{ps:List (Nat×Opd)}(he:Zet P t=some (k,bytes,z))(hn:n*k<=16777216)(hps:ZgW parts.toList=some ps)
  {sq:Nat} (hs:σ[sq]?=some .free) {O:ZJ} {pure':Nat->Bool} {r:AVal} {c:Cls} (h:execI O pure' tm σ sq (.rslice k n z ps)=some (r,σ',c)) :
  ∃ u w',(Instr.buildSlice t n (parts.map fun(i,x)=>(i,a.eval x))).run P w=.ok u w'/\Post base w0 I0 I β r σ' u w':=by
 obtain⟨e,i,v,hu,hi,hik,hib,hv,hz,hk,hby,hzl⟩:=Zjx he
 obtain⟨hz1,hz2⟩:=Zft (I:=I) (β:=β) hz
 simp only[execI]at h
 split at h
 case isFalse=>cases h
 rename_i hc
 simp only[Xj,XF,beq_iff_eq,decide_eq_true_eq]at hc
 obtain⟨⟨⟨hy0,hidx⟩,_⟩,hzok⟩:=hc
 obtain⟨c1,c2,c3⟩:=ZtC (a:=a) T hps
 have hzip:(ps.map (·.1)).zip (ps.map fun p=>p.2.ev tm)=ps.map fun p=>(p.1,p.2.ev tm):=by
  rw[List.zip_map']
 have hy:∀ y∈ps.map (fun p=>p.2.ev tm),y.cells.length=k:=by
  intro y hy
  obtain⟨p,hp,rfl⟩:=XG.1 hy
  exact(hy0 p hp).1
 have hyok:∀ y∈ps.map (fun p=>p.2.ev tm),∀ c∈y.cells,Z7 c=true:=by
  intro y hy
  obtain⟨p,hp,rfl⟩:=XG.1 hy
  exact(hy0 p hp).2
 have hntop:∀ y∈ps.map (fun p=>p.2.ev tm),y≠.top:=by
  intro y hy e
  have:=hyok y hy
  rw[e]at this
  have:=this .top (by simp[AVal.cells])
  cases this
 obtain⟨cells',g1,g2,g3,g4,g5⟩:=Zrt (I:=I) (β:=β) (k:=k) (is:=ps.map (·.1)) (ys:=ps.map fun p=>p.2.ev tm) (vs:=parts.toList.map fun p=>a.eval p.2) (xs:=XA n z) (cells:=(W6 (n*k)).map (v.cells[· % v.cells.size]!)) (by simp) hntop c2 hy
  (by intro j hj;simp only[XG]at hj;obtain⟨p,hp,rfl⟩:=hj;simpa using hidx p hp) (by intro x hx;rw[X9 hx];exact hzl) (Zld (ZfR hz) hz1 hzl hk n)
 have hrun:(Instr.buildSlice t n (parts.map fun(i,x)=>(i,a.eval x))).run P w=.ok (.slice (some ⟨w.heap.size,0,none⟩) n n) { w with heap:=w.heap.push (.cells cells' e) }:=by
  have hpl:(parts.map fun(i,x)=>(i,a.eval x)).toList=(ps.map (·.1)).zip (parts.toList.map fun p=>a.eval p.2):=by rw[<-c1];simp
  have hle:¬16777216<n*i.size:=by rw[hik];omega
  have hle':¬2^24<n*k:=by omega
  by_cases hn0:n*k=0
  ·have hr0:W6 0=#[]:=rfl
   have g1':Instr.fill (fun i=>some (i*k,k)) #[] ((ps.map (·.1)).zip (parts.toList.map fun p=>a.eval p.2))=some cells':=by
    rw[hn0,hr0]at g1;simpa using g1
   simp only[Instr.buildSlice,Sem.run_bind,run_underlying hu,Result.andThen_ok,sizeOf,typeInfo,run_program,hi,Sem.run_pure,Sem.run_ite,hik,hn0,hpl]
   simp[hr0,g1',newRow]
  ·simp only[Instr.buildSlice,Sem.run_bind,run_underlying hu,Result.andThen_ok,sizeOf,typeInfo,run_program,hi,Sem.run_pure,Sem.run_ite,hik,hn0,hpl,zeroValue,hv,if_false]
   simp[show¬16777216<n*k by omega,g1,newRow]
 rw[hzip]at g2 g3 g4
 have hall:∀ x∈(ps.map fun p=>(p.1,p.2.ev tm)).foldl (fun l p=>l.set p.1 p.2) (XA n z),∀ c∈x.cells,Z7 c=true:=by
  have aux:∀ (l:List (Nat×AVal)) (xs:List AVal),(∀ p∈l,∀ c∈p.2.cells,Z7 c=true)->(∀ x∈xs,∀ c∈x.cells,Z7 c=true)->∀ x∈l.foldl (fun l p=>l.set p.1 p.2) xs,∀ c∈x.cells,Z7 c=true:=by
   intro l
   induction l with
   |nil=>intro xs _ h;exact h
   |cons p l ih =>
    intro xs hp hx
    refine ih _ (fun q hq=>hp q (by simp[hq])) ?_
    intro x hm
    rcases XZ hm with hm |rfl
    ·exact hx x hm
    ·exact hp p (by simp)
  refine aux _ _ (fun p hp=>?_) (fun x hx=>by rw[X9 hx];exact hzok)
  obtain⟨q,hq,rfl⟩:=XG.1 hp
  exact(hy0 q hq).2
 have hcs:cells'.size=n*k:=by rw[g5];simp
 have hn63:n<=9223372036854775807:=by
  have : n*1<=n*k:=Xa8 n hk
  omega
 generalize (ps.map fun p=>(p.1,p.2.ev tm)).foldl (fun l p=>l.set p.1 p.2) (XA n z)=xs at *
 have hxl:xs.length=n:=by rw[g4];simp
 simp only[Xa,Xc]at h
 obtain⟨rfl,rfl,rfl⟩:=h
 obtain⟨R',hle⟩:=R.newObj hb hs (.cells cells' e) (.rrow 0 k xs) k n (by simp[Zo,Bmap.put_same]) rfl (by simp)
  ⟨_,Bmap.put_same β sq 0 _,rfl,hk,hn63,by simp only[hxl];exact XD _,fun x hx=>⟨g3 x hx,hall x hx⟩,w.heap.size,cells',e,rfl,by simp,hcs,by rw[Xy (by simp[hcs,hxl])];exact VRs.mono (Imm.le.refl I) (Bmap.put_le (R.free sq 0 hs)) _ _ g2⟩
 refine⟨_,_,hrun,Post.mk (Imm.le.refl I) hle R' ?_⟩
 rw[ZcV]
 exact⟨_,Bmap.put_same β sq 0 _,XD _,hn63,Xp ⟨_,rfl,rfl⟩⟩
theorem ZIq(R:Rel base w0 I0 I β σ w){t ty:TypeId}{k bytes:Nat}{z:AVal}(he:Zet P t=some (k,bytes,z)){x r:AVal}{v:Value}(hx:VR I β x v){c:Cls}(h:Zlh σ k z x=some (r,σ',c)) :
  ∃ u w',(Builtin.clear_ #[t] ty #[v]).run P w=.ok u w'/\Post base w0 I0 I β r σ' u w':=by
 obtain⟨e,i,vz,hu,hi,hik,hib,hvz,hz,hk,hby,hzl⟩:=Zjx he
 obtain⟨hz1,hz2⟩:=Zft (I:=I) (β:=β) hz
 unfold Zlh at h
 split at h
 case h_2=>cases h
 rename_i t' g lo n
 split at h
 case h_2=>cases h
 rename_i g' k' xs hs
 split at h
 case isFalse=>cases h
 rename_i hc
 obtain⟨rfl,rfl,hle,_⟩:=hc
 simp only[Xa,Xc]at h
 obtain⟨rfl,rfl,rfl⟩:=h
 have ZhU:VR I β (.tup []) (.tuple #[]):=by simp[VR,VRs]
 by_cases hn:n=0
 ·subst hn
  have hsame:σ.set t' (.row g' k' (xs.take lo++XA 0 z++xs.drop (lo+0)))=σ:=by
   have : xs.take lo++XA 0 z++xs.drop (lo+0)=xs:=by simp
   rw[this]
   apply Wt
   intro j
   rw[Xr]
   split
   ·rename_i e;subst e
    split
    ·exact hs.symm
    ·rename_i hlt;rw[X6 (by omega)]
   ·rfl
  rw[hsame]
  refine⟨.tuple #[],w,?_,Post.here R ZhU⟩
  simp only[VR]at hx
  obtain⟨bi,_,_,_,hv⟩:=hx
  rcases hv with⟨b,_,rfl⟩ |⟨_,_,A,rfl⟩ |⟨_,_,_,A,rfl⟩
  ·simp[Builtin.clear_,run_underlying hu]
  ·cases A<;>simp[Builtin.clear_,run_underlying hu]
  ·cases A<;>simp[Builtin.clear_,run_underlying hu]
 ·obtain⟨bi,e1,e2,e3,e4,e5,e6,e7,e8⟩:=R.blk _ _ hs
  subst e2
  simp only[VR]at hx
  obtain⟨bi',f1,f2,f3,f4⟩:=hx
  rw[e1]at f1
  injection f1 with f1
  subst f1
  have hown:∀ b,Zo w β t' (.row g' bi.k xs) b↔bi.b=some b:=by simp[Zo,e1]
  rcases e8 with⟨_,hz0⟩ |⟨b,us,ty0,hbb,e8,e9,e10⟩
  ·omega
  have hv0:v=.slice (some ⟨b,lo*bi.k,none⟩) n (bi.cap-lo):=by
   rcases f4 with⟨b',eb,rfl⟩ |⟨_,hz0,_⟩ |⟨_,_,hn0,_⟩
   ·rw[hbb]at eb;injection eb with eb;subst eb;rfl
   ·omega
   ·exact absurd hn0 hn
  subst hv0
  have hrep:=Zld (I:=I) (β:=β) (ZfR hz) hz1 hzl hk n
  have hvl:=Zhb (ZfR hz) hz1
  have hzc:Builtin.zeroCells vz.cells n=(W6 (n*bi.k)).map (vz.cells[· % vz.cells.size]!):=by
   unfold Builtin.zeroCells
   rw[hvl,hzl]
  have hlen:((W6 (n*bi.k)).map (vz.cells[· % vz.cells.size]!)).toList.length=n*bi.k:=by simp
  have hone:∀ v∈((W6 (n*bi.k)).map (vz.cells[· % vz.cells.size]!)).toList,v.oneCell'=true:=Zi9 (fun y hy=>by
   obtain⟨q,hq,hy⟩:=Wi.1 hy
   rw[X9 hq]at hy
   exact Zrj (Zdz.1 hz2 y hy)) hrep
  have hmul:(lo+n)*bi.k<=us.size:=by rw[e9];exact Wd _ f2
  have hmul2:(lo+n)*bi.k<=xs.length*bi.k:=Wd _ hle
  rw[We]at hmul hmul2
  have hst:=run_storeCells_at (P:=P) b (lo*bi.k) ty0 _ 0 us w e8 (by rw[hlen];omega) hone
  simp only[Wg]at hst
  refine⟨.tuple #[],_,?_,Post.here (R.write hs (b:=b) (by rw[hown,hbb]) (us.toList.take (lo*bi.k)++((W6 (n*bi.k)).map (vz.cells[· % vz.cells.size]!)).toList++us.toList.drop (lo*bi.k+((W6 (n*bi.k)).map (vz.cells[· % vz.cells.size]!)).toList.length)).toArray (by simp[Zo,e1,hbb]) ?_ rfl) ZhU⟩
  ·obtain⟨m,rfl⟩:∃ m,n=m+1:=⟨n-1,by omega⟩
   simp only[Builtin.clear_,zeroValue,typeInfo,hi,hvz,hzc,run_underlying hu,Sem.run_bind,Sem.run_pure,Result.andThen_ok,List.getElem?_toArray,XE,run_program]
   rw[hst]
   rfl
  ·have hxl:(xs.take lo++XA n z++xs.drop (lo+n)).length=xs.length:=by simp;omega
   refine⟨bi,e1,rfl,e3,e4,by rw[hxl];exact e5,?_,?_,Xt ⟨b,_,ty0,hbb,setRow_heap w b us _ ty0 (0,0) e8,?_,?_⟩⟩
   ·exact Zid (Zid (Zhx e6 lo) (by rw[Zdg];intro x hx;rw[X9 hx];exact hz2)) (Zkm e6 _)
   ·intro q hq
    simp only[Xs]at hq
    rcases hq with(hq |hq) |hq
    ·exact e7 q (WO hq)
    ·rw[X9 hq];exact hzl
    ·exact e7 q (List.mem_of_mem_drop hq)
   ·simp only[List.size_toArray,Xk,X0,List.length_drop,XQ,hlen]
    rw[<-e9];omega
   ·rw[hxl,Zgf,Zgf,<-Zh5 e7,<-Zio e7]
    have h1:=Zff e10 (lo*bi.k)
    have h2:=Zfr e10 ((lo+n)*bi.k)
    have:=Zcj (Zcj h1 hrep) h2
    refine cast ?_ this
    congr 1
    rw[Xab,WW (by omega),Xac]
    rw[We]
    apply Wt
    intro j
    simp only[WF,XO,Wx,Xk,X0,XQ,hlen]
    repeat' split
    all_goals first |rfl |omega |(congr 1;omega) |(exfalso;omega) |skip
    all_goals (first |(symm;rw[X4];simp;omega) |(rw[X4];simp;omega))
theorem ZNb(R:Rel base w0 I0 I β σ w)(hb:KLt base w0){t:TypeId}(ht:P.underlying t=some .string){l:List UInt8}{sq:Nat}(hs:σ[sq]?=some .free) :
  ∃ u w',(Instr.range t (.string ⟨l.toArray⟩)).run P w=.ok u w'/\Post base w0 I0 I β (.ref sq 0) (σ.set sq (.siter l 0)) u w':=by
 obtain⟨R',hle⟩:=R.newObj hb hs (.stringIter ⟨l.toArray⟩ 0) (.siter l 0) 1 1 (by simp[Zo,Bmap.put_same]) rfl (by simp)
  ⟨_,_,_,Bmap.put_same β sq 0 _,by simp⟩
 refine⟨.pointer (some ⟨w.heap.size,0,none⟩),_,?_,Post.mk (Imm.le.refl I) hle R' ?_⟩
 ·simp[Instr.range,run_underlying ht]
 ·simp only[VR]
  exact⟨_,_,_,Bmap.put_same β sq 0 _,rfl⟩
theorem ZBZ(R:Rel base w0 I0 I β σ w){t:Nat}{l:List UInt8}{p:Nat}(hs:σ[t]?=some (.siter l p)){v:Value}(hv:VR I β (.ref t 0) v)(ty:TypeId) :
  ∃ u w',(Instr.next v true ty).run P w=.ok u w'/\(if p<l.length then Post base w0 I0 I β (.tup [.bool true,.int .i64 p,.int .i32 (ZfC l p).1]) (σ.set t (.siter l (p+(ZfC l p).2))) u w' else Post base w0 I0 I β (.tup [.bool false]) σ u w'):=by
 simp only[VR]at hv
 obtain⟨b,k,c,hb,rfl⟩:=hv
 obtain⟨b',k',c',e1,e2⟩:=R.blk _ _ hs
 rw[hb]at e1
 simp only[Xa,BI.mk.injEq]at e1
 obtain⟨rfl,rfl,rfl⟩:=e1
 have hg:(getObj b).run P w=.ok (.stringIter ⟨l.toArray⟩ p) w:=by simp[getObj,Sem.run,e2]
 have hsz:(ByteArray.mk l.toArray).size=l.length:=by simp[WM]
 have hlt:b<w.heap.size:=(Xz.1 e2).1
 by_cases hp:p<l.length
 ·have hso:∀ o,(setObj b o).run P w=.ok () { w with heap:=w.heap.setIfInBounds b o }:=by intro o;simp[setObj,Sem.run,e2]
  refine⟨.tuple #[.bool true,goInt p,.int .i32 (ZfC l p).1],{ w with heap:=w.heap.setIfInBounds b (.stringIter ⟨l.toArray⟩ (p+(ZfC l p).2)) },?_,?_⟩
  ·simp[Instr.next,hg,hsz,hp,hso,ZfC]
  ·rw[if_pos hp]
   refine Post.here (R.putObj hs (by simp[Zo,hb]) _ (by simp[Zo,hb]) ⟨b,k,c,hb,?_⟩ rfl) ?_
   ·rw[X7 hlt]
   ·simp[VR,VRs,goInt]
 ·refine⟨.tuple #[.bool false],w,?_,?_⟩
  ·simp[Instr.next,hg,hsz,hp]
  ·rw[if_neg hp]
   refine Post.here R ?_
   simp[VR,VRs]
theorem ZQu(R:Rel base w0 I0 I β σ w)(hb:KLt base w0){t:TypeId}{k bytes:Nat}{z:AVal}(he:Zet P t=some (k,bytes,z)){l c:Int}(h0:0<=l)(h1:l<=c)(h2:c<=9223372036854775807)(h3:bytes*c<=140737488355328){sq:Nat}(hs:σ[sq]?=some .free) :
  ∃ u w',(Instr.makeSlice t (.int .i64 l) (.int .i64 c)).run P w=.ok u w'/\Post base w0 I0 I β (.sl sq 0 0 l.toNat) (σ.set sq (.row 0 k (XA c.toNat z))) u w':=by
 obtain⟨e,i,v,hu,hi,hik,hib,hv,hz,hk,hby,hzl⟩:=Zjx he
 obtain⟨hz1,hz2⟩:=Zft (I:=I) (β:=β) hz
 have wl:IntKind.i64.wrap l=l:=by rw[IntKind.wrap_i64];omega
 have wc:IntKind.i64.wrap c=c:=by rw[IntKind.wrap_i64];omega
 have hc0:¬c<0:=by omega
 have hbc:¬(281474976710656:Int)<bytes*c:=by omega
 have hl0:¬l<0:=by omega
 have hlc:¬c<l:=by omega
 have hvl:=Zhb (ZfR hz) hz1
 have hrep:=Zld (ZfR hz) hz1 hzl hk c.toNat
 have husz:((W6 (c.toNat*k)).map (v.cells[· % v.cells.size]!)).size=c.toNat*k:=by simp
 obtain⟨R',hle⟩:=R.newOwn hb hs ((W6 (c.toNat*k)).map (v.cells[· % v.cells.size]!)) e (.row 0 k (XA c.toNat z)) k c.toNat (Xt ⟨_,rfl,hk,by omega,by simp,by rw[Zdg];intro x hx;rw[X9 hx];exact hz2,by intro x hx;rw[X9 hx];exact hzl,husz,by rw[Xy (by simp)];exact hrep⟩)
 refine⟨.slice (some ⟨w.heap.size,0,none⟩) l.toNat c.toNat,_,?_,Post.mk (Imm.le.refl I) hle R' ?_⟩
 ·by_cases hn0:c.toNat*k=0
  ·have hr0:W6 0=#[]:=rfl
   simp[Instr.makeSlice,run_underlying hu,asInt,asIntOf,typeInfo,hi,hib,wl,wc,sizeOf,hik,hn0,hc0,hbc,hl0,hlc,newRow,hr0]
  ·simp[Instr.makeSlice,run_underlying hu,asInt,asIntOf,typeInfo,hi,hib,wl,wc,sizeOf,hik,hn0,hc0,hbc,hl0,hlc,newRow,zeroValue,hv]
 ·rw[ZcV]
  exact⟨_,Bmap.put_same β sq 0 _,by simp;omega,by simp;omega,Xp ⟨_,rfl,rfl⟩⟩
theorem ZSg{t e:TypeId}(hu:P.underlying t=some (.slice e))(he:P.underlying e=some (.int .u8))(R:Rel base w0 I0 I β σ w){t' g k lo n:Nat}{xs:List AVal}(hs:σ[t']?=some (.row g k xs))(hn:lo+n<=xs.length)(h0:0<n){v:Value}(hx:VR I β (.sl t' g lo n) v) :
  ∃ w',(convert t t v).run P w=.ok v w'/\Post base w0 I0 I β (.lst false ((xs.drop lo).take n)) (σ.set t' (.frow g k xs)) v w':=by
 have hsl:t'<σ.length:=(Xh.1 hs).1
 have hx0:=hx
 simp only[VR]at hx
 obtain⟨bi,f1,f2,f3,f4⟩:=hx
 obtain⟨bi',h1,h2,h3,h4,h5,h6,h7,h8⟩:=R.blk _ _ hs
 rw[f1]at h1;injection h1 with h1;subst h1
 rcases f4 with⟨b,hbb,rfl⟩ |⟨_,hc,_⟩ |⟨_,_,hz,_⟩
 ·rcases h8 with⟨h8,_⟩ |⟨b',us,ty,eb,h8,h9,h10⟩
  ·rw[hbb]at h8;cases h8
  rw[hbb]at eb;injection eb with eb;subst eb
  have hown:Zo w β t' (.row g k xs) b:=by simp[Zo,f1,hbb]
  have ho:=R.own t' _ b hs hown
  let w':World:=w.freeze ⟨b,us.size,none⟩ 1
  have hhb:w'.heap[b]?=some (.cells us ty (us.size,us.size+1)):=by
   simp only[w',World.freeze,Nat.one_ne_zero,if_false,XaV,if_true,h8,XT]
   simp
  have hho:∀ b',b'≠b->w'.heap[b']?=w.heap[b']?:=by
   intro b' hne
   simp only[w',World.freeze,Nat.one_ne_zero,if_false,XaV]
   rw[if_neg (fun e=>hne e.symm)]
  have hsz:w'.heap.size=w.heap.size:=by simp[w',World.freeze]
  let I':Imm:=fun b' o=>if b'=b/\o<xs.length*k then us[o]? else I b' o
  have hle:I.le I':=by
   intro b' o u hu
   have : b'≠b:=by rintro rfl;rw[ho.2 o]at hu;cases hu
   simp only[I',this,false_and,if_false]
   exact hu
  have R':Rel base w0 I0 I' β (σ.set t' (.frow g k xs)) w':=by
   refine R.upd hle (Bmap.le.refl β) ⟨rfl,rfl,rfl,by rw[hsz];exact XD _,fun q hq=>hho q (by rintro rfl;exact ho.1 hq)⟩ ?_ ?_ t' _ rfl hsl (fun _ _ _=>rfl) ?_ ?_ (fun b e=>by cases e) (fun g' hg=>R.gen t' _ g' hs (by simpa[genB]using hg)) (by simp)
   ·intro b' o hb'
    have : b'≠b:=by rintro rfl;exact ho.1 hb'
    simp only[I',this,false_and,if_false]
   ·intro b' o u hu
    simp only[I']at hu
    split at hu
    ·rename_i hc
     rw[hc.1,Zfu hhb];exact hu
    ·have:=R.imm _ _ _ hu
     have hne:b'≠b:=by rintro rfl;rw[ho.2 o]at hu;cases hu
     rw[<-this]
     simp only[World.cell?,hho b' hne]
   ·intro t'' x b' hne hx hb'
    have hbb':b'≠b:=by rintro rfl;exact hne (R.apart t'' x t' _ b' hx hs hb' hown)
    refine⟨hho b' hbb',fun o=>?_,by simp[Zo]⟩
    simp only[I',hbb',false_and,if_false]
    exact(R.own t'' x b' hx hb').2 o
   ·refine⟨bi,f1,h2,h3,h4,h5,h6,Xt ⟨b,hbb,?_⟩⟩
    refine ZjI h7 (VRs.mono hle (Bmap.le.refl β) _ _ h10) (fun j u hu=>?_)
    rw[XO]at hu
    split at hu
    ·rename_i hj
     simp only[I',Xv,true_and,hj,if_true]
     simpa using hu
    ·cases hu
  refine⟨w',?_,Post.mk hle (Bmap.le.refl β) R' (Zqi R' (by rw[Xr,if_pos rfl,if_pos hsl]) hn (hx0.mono hle (Bmap.le.refl β) _ _))⟩
  have hshape:w.shape? b=some (ty,us.size):=by simp[World.shape?,h8]
  simp[convert,run_underlying hu,run_underlying he,markStringish,hshape,w']
 ·omega
 ·omega
end
end
section
open Go.RowKit
section
variable {base:Nat->Prop}{w0 w w':World}{I0 I I':Imm}{β β':Bmap}{σ σ':Za}{ρ:Rho}
def Zgk(ρ:Rho)(β β':Bmap):Prop:=∀ t g t' g' bi,ρ t g=some (t',g')->β t g=some bi->β' t' g'=some bi
mutual
theorem Zg0(hρ:Zgk ρ β β'):∀ (x:AVal) (v:Value),VR I β x v->VR I β' (renV ρ x) v
 | .top,_,h=>by simp only[renV,VR]
 | .any,_,h=>by simpa only[renV,VR]using h
 | .int _ _,_,h=>by simpa only[renV,VR]using h
 | .bool _,_,h=>by simpa only[renV,VR]using h
 | .str _,_,h=>by simpa only[renV,VR]using h
 | .nilp,_,h=>by simpa only[renV,VR]using h
 | .nilm,_,h=>by simpa only[renV,VR]using h
 | .nili,_,h=>by simpa only[renV,VR]using h
 | .pan _,_,h=>by simp only[VR]at h
 | .iface t x,_,h=>by
  simp only[renV,VR]at h⊢
  obtain⟨u,h1,h2⟩:=h
  exact⟨u,h1,Zg0 hρ x u h2⟩
 | .ref t o,_,h=>by
  simp only[VR]at h
  obtain⟨b,k,c,h1,h2⟩:=h
  simp only[renV]
  split
  ·rename_i t' e
   simp only[VR]
   exact⟨b,k,c,hρ _ _ _ _ _ e h1,h2⟩
  ·subst h2;simp only[VR];exact⟨rfl,rfl⟩
 | .map t,_,h=>by
  simp only[VR]at h
  obtain⟨b,k,c,h1,h2⟩:=h
  simp only[renV]
  split
  ·rename_i t' e
   simp only[VR]
   exact⟨b,k,c,hρ _ _ _ _ _ e h1,h2⟩
  ·subst h2;simp only[VR];exact⟨rfl,rfl⟩
 | .eref t g i o,_,h=>by
  simp only[VR]at h
  obtain⟨b,k,c,h1,h2⟩:=h
  simp only[renV]
  split
  ·rename_i t' g' e
   simp only[VR]
   exact⟨b,k,c,hρ _ _ _ _ _ e h1,h2⟩
  ·subst h2;simp only[VR];exact⟨rfl,rfl⟩
 | .nref t j o,_,h=>by
  simp only[VR]at h
  obtain⟨b,k,c,h1,h2⟩:=h
  simp only[renV]
  split
  ·rename_i t' g' e
   split
   ·rename_i e2
    subst e2
    simp only[VR]
    exact⟨b,k,c,hρ _ _ _ _ _ e h1,h2⟩
   ·subst h2;simp only[VR];exact⟨rfl,rfl⟩
  ·subst h2;simp only[VR];exact⟨rfl,rfl⟩
 | .mapg t j nx,_,h=>by
  simp only[VR]at h
  obtain⟨b,k,c,h1,h2⟩:=h
  simp only[renV]
  split
  ·rename_i t' g' e
   split
   ·rename_i e2
    subst e2
    simp only[VR]
    exact⟨b,k,c,hρ _ _ _ _ _ e h1,h2⟩
   ·subst h2;simp only[VR];exact⟨rfl,rfl⟩
  ·subst h2;simp only[VR];exact⟨rfl,rfl⟩
 | .sl t g lo n,_,h=>by
  simp only[VR]at h
  obtain⟨bi,h1,h2,h3,h4⟩:=h
  simp only[renV]
  split
  ·rename_i t' g' e
   simp only[VR]
   exact⟨bi,hρ _ _ _ _ _ e h1,h2,h3,h4⟩
  ·simp only[VR]
   rcases h4 with⟨_,_,rfl⟩ |⟨_,_,_,rfl⟩ |⟨_,_,_,_,rfl⟩<;>exact⟨rfl,rfl⟩
 | .iptr cs o,_,h=>by
  simp only[renV,VR]at h⊢
  obtain⟨b,off,h1,h2,h3⟩:=h
  exact⟨b,off,h1,CR.of_tree h3 h2,h3⟩
 | .lst x xs,_,h=>by
  simp only[renV,VR]at h⊢
  obtain⟨A,cap,h1,h2,h3,h4,h5,h6⟩:=h
  refine⟨A,cap,h1,h2,h3,h4,?_,h6⟩
  rcases h5 with h5 |⟨b,off,k,e,hk,h5⟩
  ·exact Xp h5
  ·exact Xt ⟨b,off,k,e,hk,(LR.tree k xs b off h6 h5).mono (Imm.le.refl I) (Zj8 β') _ _ _ _⟩
 | .agg cs,_,h=>by
  simp only[renV,VR]at h⊢
  obtain⟨us,h1,h2⟩:=h
  exact⟨us,h1,Zfb hρ cs us.toList h2⟩
 | .tup cs,_,h=>by
  simp only[renV,VR]at h⊢
  obtain⟨us,h1,h2⟩:=h
  exact⟨us,h1,Zfb hρ cs us.toList h2⟩
 | .fn f cs,_,h=>by
  simp only[renV,VR]at h⊢
  obtain⟨fs,us,h1,h0,h2⟩:=h
  exact⟨fs,us,h1,h0,Zfb hρ cs (fs.toList++us.toList) h2⟩
theorem Zfb(hρ:Zgk ρ β β'):∀ (xs:List AVal) (vs:List Value),VRs I β xs vs->VRs I β' (renL ρ xs) vs
 | [],_,h=>by simpa only[renL,VRs]using h
 |x::xs,_,h=>by
  simp only[renL,VRs]at h⊢
  obtain⟨v,vs',h1,h2,h3⟩:=h
  exact⟨v,vs',h1,Zg0 hρ x v h2,Zfb hρ xs vs' h3⟩
end
theorem ZeX:∀ (xs:List AVal),renL ρ xs=xs.map (renV ρ)
 | []=>rfl
 |x::xs=>by simp only[renL,Xn,ZeX xs]
def Zek:Zx->Bool
 | .var _ | .map _ | .siter _ _ | .opq | .book _ _ | .rmap _ | .gmap _ _=>true
 |_=>false
theorem Zw0(x:AVal):(renV ρ x).cells=x.cells.map (renV ρ):=by
 cases x with
 |agg cs=>simp only[renV,AVal.cells,ZeX]
 |ref t o =>
  show(renV ρ (.ref t o)).cells=[renV ρ (.ref t o)]
  simp only[renV]
  generalize ρ t 0=q
  rcases q with _ |⟨t',_ |g⟩<;>rfl
 |eref t g i o =>
  show(renV ρ (.eref t g i o)).cells=[renV ρ (.eref t g i o)]
  simp only[renV]
  generalize ρ t g=q
  rcases q with _ |⟨t',g'⟩<;>rfl
 |sl t g i o =>
  show(renV ρ (.sl t g i o)).cells=[renV ρ (.sl t g i o)]
  simp only[renV]
  generalize ρ t g=q
  rcases q with _ |⟨t',g'⟩<;>rfl
 |nref t j o =>
  show(renV ρ (.nref t j o)).cells=[renV ρ (.nref t j o)]
  simp only[renV]
  split
  ·split<;>rfl
  ·rfl
 |mapg t j nx =>
  show(renV ρ (.mapg t j nx)).cells=[renV ρ (.mapg t j nx)]
  simp only[renV]
  split
  ·split<;>rfl
  ·rfl
 |map t =>
  show(renV ρ (.map t)).cells=[renV ρ (.map t)]
  simp only[renV]
  generalize ρ t 0=q
  rcases q with _ |⟨t',_ |g⟩<;>rfl
 |_=>simp only[renV,AVal.cells,Xn,Xo]
theorem ZQT(x:AVal):x.cells.length=(renV ρ x).cells.length/\(∀ c∈(renV ρ x).cells,∃ c0∈x.cells,c=renV ρ c0):=by
 rw[Zw0]
 exact⟨by simp,fun c hc=>by obtain⟨c0,h0,rfl⟩:=XG.1 hc;exact⟨c0,h0,rfl⟩⟩
theorem ZGR{c:AVal}(h:Z7 c=true):Z7 (renV ρ c)=true:=by
 cases c<;>first
  |(simp[Z7]at h;done)
  |(simp only[renV];rfl)
  |(simp only[renV];split<;>rfl)
  |(simp only[renV];split<;>first |rfl |(split<;>rfl))
theorem Zxf:∀ (xs:List AVal),(renL ρ xs).flatMap AVal.cells=renL ρ (xs.flatMap AVal.cells)
 | []=>rfl
 |x::xs=>by
  rw[renL,X2,X2,Zxf xs,ZeX,ZeX,XH]
  rw[Zw0]
theorem ZzN{w:World}{kb:Nat}{es:List (AVal×(List AVal ⊕ AVal))}:ZaD w kb (es.map fun p=>(p.1,p.2.map id (renV ρ)))=ZaD w kb es:=by
 unfold ZaD
 congr 1
 generalize Zdi w kb=l
 induction es generalizing l with
 |nil=>rfl
 |cons x es ih =>
  cases l with
  |nil=>rfl
  |cons e l =>
   obtain⟨x1,q⟩:=x
   simp only[Xn,Wj,Wz,ih]
   cases q<;>rfl
theorem Zz9(hρ:Zgk ρ β β'){k kb:Nat}{es:List (AVal×(List AVal ⊕ AVal))}(h:GmapW I β w k kb es):GmapW I β' w k kb (es.map fun p=>(p.1,p.2.map id (renV ρ))):=by
 obtain⟨h0,h1,arr,clk,h2,h3,h4,h5,h6⟩:=h
 refine⟨by rw[ZzN];exact h0,h1,arr,clk,h2,?_,?_,h5,?_⟩
 ·rw[WG]
  refine VRs.of_cells (β:=β) ?_ h3
  intro x hx
  obtain⟨p,hp,rfl⟩:=XG.1 hx
  have:=h4 p hp
  show Zai p.1.cells=true
  generalize p.1=q at this ⊢
  cases q<;>simp[Zcn]at this<;>rfl
 ·intro p hp
  obtain⟨q,hq,rfl⟩:=XG.1 hp
  exact h4 q hq
 ·intro i p e hp he
  rw[XX,Xq]at hp
  obtain⟨⟨x,q⟩,hq,rfl⟩:=hp
  have:=h6 i _ e hq he
  cases q with
  |inr y=>exact Zg0 hρ _ _ this
  |inl xs =>
   obtain⟨t1,t2,vs,t3,t4⟩:=this
   exact⟨t1,t2,vs,t3,VRs.of_cells (β:=β) (fun x hx=>by
    have:=Zdz.1 (Zmg t1) x hx
    cases x<;>simp_all[Zaf,AVal.cells,Zai]) t4⟩
theorem Zt3{x:AVal}(h:Z5 x=true):Zaf x=true:=by cases x<;>first |rfl |(simp[Z5]at h)
theorem ArenaW.ren{t t':Nat}{ns:Zbg}(hbig:∀ g,1000<=g->β' t' g=β t g)(h:ArenaW I β w t ns):ArenaW I β' w t' ns:=by
 have hk:∀ (l:List AVal) (vs:List Value),(∀ x∈l,Zcn x=true)->VRs I β l vs->VRs I β' l vs:=by
  intro l vs hl hv
  refine VRs.of_cells (β:=β) ?_ hv
  intro x hx
  have:=hl x hx
  cases x<;>simp[Zcn]at this<;>rfl
 refine⟨fun i nd hi=>?_,fun g g' b a1 a2 a3 a4 h1 h2=>h.2 g g' b a1 a2 a3 a4 (by rw[<-hbig g (by omega)];exact h1) (by rw[<-hbig g' (by omega)];exact h2)⟩
 obtain⟨bs,k0,c0,us,ty,bv,k1,c1,arr,clk,bn,k2,c2,arr',clk',h0,h1,h2,a,⟨b1,b2,b3,b4,b5⟩,d1,d2,d3,d4,d5⟩:=h.1 i nd hi
 refine⟨bs,k0,c0,us,ty,bv,k1,c1,arr,clk,bn,k2,c2,arr',clk',by rw[hbig _ (by omega)];exact h0,by rw[hbig _ (by unfold Z6;omega)];exact h1,by rw[hbig _ (by unfold Z6;omega)];exact h2,a,⟨b1,hk _ _ (fun x hx=>by obtain⟨p,hp,rfl⟩:=XG.1 hx;exact(b4 p hp).1) b2,?_,b4,b5⟩,d1,hk _ _ (fun x hx=>by obtain⟨p,hp,rfl⟩:=XG.1 hx;exact(d4 p hp).1) d2,?_,d4,d5⟩
 ·refine VRs.of_cells (β:=β) ?_ b3
  intro x hx
  obtain⟨p,hp,rfl⟩:=XG.1 hx
  have:=Zt3 (b4 p hp).2
  generalize p.2=q at this ⊢
  cases q<;>simp_all[Zaf,AVal.cells,Zai]
 ·refine ZdK (by simpa using Zae d3) (fun i x v hx hv=>?_)
  rw[XX,Xq]at hx
  obtain⟨p,hp,rfl⟩:=hx
  obtain⟨v',e1,e2⟩:=Zcc d3 (i:=i) (x:=.nref t p.2 0) (by rw[XX,hp];rfl)
  rw[hv]at e1
  injection e1 with e1
  subst e1
  simp only[VR]at e2 ⊢
  obtain⟨b,k,c,e3,e4⟩:=e2
  exact⟨b,k,c,by rw[hbig _ (by omega)];exact e3,e4⟩
theorem Zt9(hρ:Zgk ρ β β'){t t':Nat}{x:Zx}{g':Nat}(hg:∀ bi,β t (genB x)=some bi->β' t' g'=some bi)(hv:Zek x=true->g'=0)(hbig:1000<=genB x->∀ g,1000<=g->β' t' g=β t g)(h:BR I β w t x):BR I β' w t' (renB ρ g' x):=by
 cases x with
 |arena ns=>exact ArenaW.ren (hbig (by simp[genB])) h
 |rarena ns=>exact ArenaW.ren (hbig (by simp[genB])) h
 |dead g=>trivial
 |bag g k q =>
  obtain⟨xs,hq,bi,h1,h2,h3,h4,h5,h6,h7,h8⟩:=h
  refine⟨xs,hq,bi,hg _ h1,h2,h3,h4,h5,h6,h7,?_⟩
  rcases h8 with h8 |⟨b,us,ty,e,h8,h9,h10⟩
  ·exact Xp h8
  ·refine Xt ⟨b,us,ty,e,h8,h9,VRs.of_cells (β:=β) ?_ h10⟩
   intro x hx
   have:=Zdz.1 (Zmg h6) x hx
   cases x<;>simp_all[Zaf,AVal.cells,Zai]
 |free=>trivial
 |map es =>
  obtain⟨b,k,c,arr,clk,h1,h2,h3,h4,h5,h6⟩:=h
  have e:=hv rfl
  subst e
  refine⟨b,k,c,arr,clk,hg _ h1,h2,?_,?_,?_,h6⟩
  ·rw[WG]
   refine VRs.of_cells (β:=β) ?_ h3
   intro x hx
   obtain⟨p,hp,rfl⟩:=XG.1 hx
   have:=h5 p hp
   show Zai p.1.cells=true
   generalize p.1=q at this ⊢
   cases q<;>simp[Zcn]at this<;>rfl
  ·have:=Zfb hρ _ _ h4
   rw[ZeX,WG]at this
   rw[WG]
   exact this
  ·intro p hp
   obtain⟨q,hq,rfl⟩:=XG.1 hp
   exact h5 q hq
 |rmap es =>
  obtain⟨b,k,c,arr,clk,h1,h2,h3,h4,h5,h6⟩:=h
  have e:=hv rfl
  subst e
  refine⟨b,k,c,arr,clk,hg _ h1,h2,?_,?_,?_,h6⟩
  ·rw[WG]
   refine VRs.of_cells (β:=β) ?_ h3
   intro x hx
   obtain⟨p,hp,rfl⟩:=XG.1 hx
   have:=h5 p hp
   show Zai p.1.cells=true
   generalize p.1=q at this ⊢
   cases q<;>simp[Zcn]at this<;>rfl
  ·have:=Zfb hρ _ _ h4
   rw[ZeX,WG]at this
   rw[WG]
   exact this
  ·intro p hp
   obtain⟨q,hq,rfl⟩:=XG.1 hp
   exact h5 q hq
 |gmap k es =>
  obtain⟨b,k',c,h1,h2⟩:=h
  have e:=hv rfl
  subst e
  exact⟨b,k',c,hg _ h1,Zz9 hρ h2⟩
 |opq =>
  obtain⟨bi,h⟩:=h
  have e:=hv rfl
  subst e
  exact⟨bi,hg _ h⟩
 |book n p =>
  obtain⟨b,k,c,vs,h1,h3,h2⟩:=h
  have e:=hv rfl
  subst e
  have h3':=Zfb hρ _ _ h3
  rw[ZeX,WG]at h3'
  exact⟨b,k,c,vs,hg _ h1,by rw[WG];exact h3',by rw[WG];exact h2⟩
 |siter l p =>
  obtain⟨b,k,c,h1,h2⟩:=h
  have e:=hv rfl
  subst e
  exact⟨b,k,c,hg _ h1,h2⟩
 |rrow g k xs =>
  obtain⟨bi,h1,h2,h3,h4,h5,h6,b,us,ty,e,h8,h9,h10⟩:=h
  refine⟨bi,hg _ h1,h2,h3,h4,by rw[ZeX,XL];exact h5,?_,b,us,ty,e,h8,h9,?_⟩
  ·intro x hx
   rw[ZeX]at hx
   obtain⟨y,hy,rfl⟩:=XG.1 hx
   obtain⟨q1,q2⟩:=ZQT (ρ:=ρ) y
   refine⟨by rw[<-q1];exact(h6 y hy).1,fun c hc=>?_⟩
   obtain⟨c0,hc0,rfl⟩:=q2 c hc
   exact ZGR ((h6 y hy).2 c0 hc0)
  ·rw[Zxf,show(renL ρ xs).length=xs.length by rw[ZeX,XL]]
   exact Zfb hρ _ _ h10
 |var cs =>
  obtain⟨b,k,c,us,ty,h1,h2,h3⟩:=h
  have e:=hv rfl
  subst e
  exact⟨b,k,c,us,ty,hg _ h1,h2,Zfb hρ _ _ h3⟩
 |row g k xs =>
  obtain⟨bi,h1,h2,h3,h4,h5,h6,h7,h8⟩:=h
  refine⟨bi,hg _ h1,h2,h3,h4,h5,h6,h7,?_⟩
  rcases h8 with h8 |⟨b,us,ty,e,h8,h9,h10⟩
  ·exact Xp h8
  ·refine Xt ⟨b,us,ty,e,h8,h9,VRs.of_cells (β:=β) ?_ h10⟩
   intro x hx
   have:=Zdz.1 (Zmg h6) x hx
   cases x<;>simp_all[Zaf,AVal.cells,Zai]
 |frow g k xs =>
  obtain⟨bi,h1,h2,h3,h4,h5,h6,h7⟩:=h
  refine⟨bi,hg _ h1,h2,h3,h4,h5,h6,?_⟩
  rcases h7 with h7 |⟨b,e,h7⟩
  ·exact Xp h7
  ·exact Xt ⟨b,e,(LR.tree _ _ _ _ h6 h7).mono (Imm.le.refl I) (Zj8 β') _ _ _ _⟩
theorem Zv5{t t':Nat}{ns:Zbg}(hbig:∀ g,1000<=g->β' t' g=β t g):Zbr β' t' ns=Zbr β t ns:=by
 funext b
 unfold Zbr
 apply propext
 constructor
 ·rintro⟨g,g1,g2,hb⟩;exact⟨g,g1,g2,by rw[<-hbig g (by omega)];exact hb⟩
 ·rintro⟨g,g1,g2,hb⟩;exact⟨g,g1,g2,by rw[hbig g (by omega)];exact hb⟩
theorem Zvb{t t' g':Nat}{x:Zx}(hg:∀ bi,β t (genB x)=some bi->β' t' g'=some bi)(hv:Zek x=true->g'=0)(hbig:1000<=genB x->∀ g,1000<=g->β' t' g=β t g)(h:BR I β w t x):Zo w β' t' (renB ρ g' x)=Zo w β t x:=by
 cases x with
 |arena ns=>exact Zv5 (hbig (by simp[genB]))
 |rarena ns=>rfl
 |dead g=>rfl
 |bag g k q =>
  obtain⟨xs,hq,bi,h1,_⟩:=h
  have h2:=hg _ h1
  have h1':β t g=some bi:=h1
  funext b';simp[Zo,renB,h1',h2]
 |free=>rfl
 |opq=>rfl
 |gmap k es =>
  obtain⟨b,k',c,h1,_⟩:=h
  have e:=hv rfl
  subst e
  have h2:=hg _ h1
  have h1':β t 0=some ⟨some b,k',c⟩:=h1
  funext b';simp[Zo,renB,h1',h2,ZzN]
 |rmap=>rfl
 |book n p =>
  obtain⟨b,k,c,vs,h1,_⟩:=h
  have e:=hv rfl
  subst e
  have h2:=hg _ h1
  have h1':β t 0=some ⟨some b,k,c⟩:=h1
  funext b';simp[Zo,renB,h1',h2]
 |map es =>
  obtain⟨b,k,c,_,_,h1,_⟩:=h
  have e:=hv rfl
  subst e
  have h2:=hg _ h1
  have h1':β t 0=some ⟨some b,k,c⟩:=h1
  funext b';simp[Zo,renB,h1',h2]
 |siter l p =>
  obtain⟨b,k,c,h1,_⟩:=h
  have e:=hv rfl
  subst e
  have h2:=hg _ h1
  have h1':β t 0=some ⟨some b,k,c⟩:=h1
  funext b';simp[Zo,renB,h1',h2]
 |rrow g k xs =>
  obtain⟨bi,h1,_⟩:=h
  have h2:=hg _ h1
  have h1':β t g=some bi:=h1
  funext b';simp[Zo,renB,h1',h2]
 |frow=>rfl
 |var cs =>
  obtain⟨b,k,c,us,ty,h1,_⟩:=h
  have e:=hv rfl
  subst e
  have h2:=hg _ h1
  have h1':β t 0=some ⟨some b,k,c⟩:=h1
  funext b';simp[Zo,renB,h1',h2]
 |row g k xs =>
  obtain⟨bi,h1,_⟩:=h
  have h2:=hg _ h1
  have h1':β t g=some bi:=h1
  funext b';simp[Zo,renB,h1',h2]
theorem ZzT{t t' g':Nat}{x:Zx}(hg:∀ bi,β t (genB x)=some bi->β' t' g'=some bi)(hv:Zek x=true->g'=0)(hbig:1000<=genB x->∀ g,1000<=g->β' t' g=β t g)(h:BR I β w t x)(b:Nat):Zaq β' t' (renB ρ g' x) b↔Zaq β t x b:=by
 cases x with
 |rarena ns=>show Zbr β' t' ns b↔Zbr β t ns b;rw[Zv5 (hbig (by simp[genB]))]
 |rmap es =>
  obtain⟨b,k,c,_,_,h1,_⟩:=h
  have e:=hv rfl
  subst e
  have h2:=hg _ h1
  have h1':β t 0=some ⟨some b,k,c⟩:=h1
  simp[Zaq,renB,h1',h2]
 |_=>exact Iff.rfl
theorem Zxx{g':Nat}{x:Zx}(hv:Zek x=true->g'=0)(hb:1000<=genB x->g'=genB x)(hx:okB x=true):genB (renB ρ g' x)=g':=by
 cases x with
 |arena ns=>exact(hb (by simp[genB])).symm
 |rarena ns=>exact(hb (by simp[genB])).symm
 |bag g k q=>rfl
 |dead g=>exact(hb (by simp[genB])).symm
 |var cs=>simp[renB,genB,hv rfl]
 |row=>rfl
 |frow=>rfl
 |rrow=>rfl
 |map es=>simp[renB,genB,hv rfl]
 |rmap es=>simp[renB,genB,hv rfl]
 |gmap k es=>simp[renB,genB,hv rfl]
 |siter l p=>simp[renB,genB,hv rfl]
 |opq=>simp[renB,genB,hv rfl]
 |book n p=>simp[renB,genB,hv rfl]
 |free=>simp[okB]at hx
theorem Zol:∀ {ids:List Nat} {t i j:Nat},idxA t ids i=some j->∃ k,j=i+k/\ids[k]?=some t
 | [],t,i,j,h=>by simp[idxA]at h
 |x::xs,t,i,j,h=>by
  simp only[idxA]at h
  split at h
  ·rename_i e;injection h with h;subst h e;exact⟨0,by simp,rfl⟩
  ·obtain⟨k,h1,h2⟩:=Zol h
   exact⟨k+1,by omega,by simpa using h2⟩
theorem ZwV{m:Nat}{ids:List Nat}:∀ {ts:List Nat} {j i:Nat},(heapOf σ m ids ρ ts j)[i]?=(ts[i]?).map fun t=>renB ρ (newGen m (j+i) (σ.getD t .free)) (σ.getD t .free)
 | [],j,i=>by simp[heapOf]
 |t::ts,j,0=>by simp[heapOf]
 |t::ts,j,i+1=>by
  simp only[heapOf,XP]
  rw[ZwV (ts:=ts) (j:=j+1) (i:=i)]
  congr 2
  funext t
  rw[show j+1+i=j+(i+1)by omega]
theorem ZkL{m:Nat}{ids:List Nat}:∀ {ts:List Nat} {j:Nat},(heapOf σ m ids ρ ts j).length=ts.length
 | [],j=>rfl
 |t::ts,j=>by simp only[heapOf,Xm,ZkL]
def ZbD(σ:Za)(m:Nat)(ids:List Nat)(β:Bmap):Bmap:=fun j g=>match ids[j]? with
 |some t=>match σ[t]? with
  |some b=>if okB b then(if 1000<=genB b then(if 1000<=g\/g=0 then β t g else none)else if g=newGen m j b then β t (genB b)else if j<m/\g=0 then β t 0 else none)else none
  |none=>none
 |none=>none
theorem Zqs{m:Nat}{ids:List Nat}:Zgk (rhoOf σ m ids) β (ZbD σ m ids β):=by
 intro t g t' g' bi h hb
 unfold rhoOf at h
 split at h
 ·rename_i j hj
  obtain⟨k,e,hk⟩:=Zol hj
  have e':j=k:=by omega
  subst e'
  have fin:∀ b,σ[t]?=some b->okB b=true->(if 1000<=genB b then(if 1000<=g then some (j,g)else none)else if g=genB b then some (j,newGen m j b)else(none:Option (Nat×Nat)))=some (t',g')->ZbD σ m ids β t' g'=some bi:=by
   intro b hb' hok h
   by_cases hbig:1000<=genB b
   ·rw[if_pos hbig]at h
    by_cases hg:1000<=g
    ·rw[if_pos hg]at h
     simp only[Xa,Xc]at h
     obtain⟨rfl,rfl⟩:=h
     unfold ZbD
     simp only[hk,hb',hok,if_true,hbig,hg,true_or]
     exact hb
    ·rw[if_neg hg]at h;cases h
   rw[if_neg hbig]at h
   by_cases e:g=genB b
   ·rw[if_pos e]at h
    simp only[Xa,Xc]at h
    obtain⟨rfl,rfl⟩:=h
    unfold ZbD
    simp only[hk,hb',hok,if_true,hbig,if_false]
    rw[<-e];exact hb
   ·rw[if_neg e]at h;cases h
  split at h
  ·cases h
  ·rename_i b n1 hb'
   refine fin b hb' ?_ h
   cases b with
   |free=>exact absurd rfl n1
   |map es=>rfl
   |rmap es=>rfl
   |gmap=>rfl
   |siter=>rfl
   |opq=>rfl
   |book=>rfl
   |rrow=>rfl
   |var=>rfl
   |row=>rfl
   |frow=>rfl
   |arena=>rfl
   |rarena=>rfl
   |bag=>rfl
   |dead=>rfl
  ·cases h
 ·cases h
theorem ZEq{m j:Nat}{x:Zx}(h:Zek x=true):newGen m j x=0:=by cases x<;>simp[Zek]at h<;>simp[newGen,genB]
theorem Rel.pick(R:Rel base w0 I0 I β σ w){K':Nat->Prop}{w1:World}{I1:Imm}{m:Nat}{ids:List Nat}(hnd:ids.Nodup)(h1:KB K' w1 w)(h2:∀ b o,K' b->I b o=I1 b o)(h3:∀ t x b,t∈ids->σ[t]?=some x->Zo w β t x b->¬K' b)(h4:∀ t x b,t∈ids->σ[t]?=some x->Zaq β t x b->K' b) :
  Rel K' w1 I1 I (ZbD σ m ids β) (heapOf σ m ids (rhoOf σ m ids) ids 0) w:=by
 have look:∀ j x',(heapOf σ m ids (rhoOf σ m ids) ids 0)[j]?=some x'->∃ t,ids[j]?=some t/\(x'=.free/\(∀ g,ZbD σ m ids β j g=none)\/∃ x,σ[t]?=some x/\okB x=true/\x'=renB (rhoOf σ m ids) (newGen m j x) x/\ZbD σ m ids β j (newGen m j x)=β t (genB x)/\(1000<=genB x->∀ g,1000<=g->ZbD σ m ids β j g=β t g)):=by
  intro j x' h
  rw[ZwV,Xq]at h
  obtain⟨t,ht,h⟩:=h
  simp only[Xv]at h
  refine⟨t,ht,?_⟩
  cases hx:σ[t]? with
  |none =>
   left
   have : σ.getD t .free=.free:=by simp[Xi,hx]
   rw[this]at h
   exact⟨h.symm,fun g=>by simp[ZbD,ht,hx]⟩
  |some x =>
   have hd:σ.getD t .free=x:=by simp[Xi,hx]
   rw[hd]at h
   by_cases hok:okB x=true
   ·refine Xt ⟨x,rfl,hok,h.symm,?_,fun hb g hg=>by simp[ZbD,ht,hx,hok,hb,hg]⟩
    by_cases hb:1000<=genB x
    ·have : newGen m j x=genB x:=by unfold newGen;rw[if_pos hb]
     rw[this];simp[ZbD,ht,hx,hok,hb]
    ·simp[ZbD,ht,hx,hok,hb]
   ·left
    refine⟨?_,fun g=>by simp[ZbD,ht,hx,hok]⟩
    rw[<-h]
    cases x<;>simp_all[okB,renB]
 have hvar:∀ (j:Nat) (x:Zx),Zek x=true->newGen m j x=0:=fun j x h=>ZEq h
 have hown:∀ j x' b,(heapOf σ m ids (rhoOf σ m ids) ids 0)[j]?=some x'->Zo w (ZbD σ m ids β) j x' b->∃ t x,ids[j]?=some t/\σ[t]?=some x/\Zo w β t x b:=by
  intro j x' b h hb
  obtain⟨t,ht,⟨rfl,_⟩ |⟨x,hx,hok,rfl,hβ,hbg⟩⟩:=look j x' h
  ·cases hb
  ·rw[Zvb (fun bi h=>by rw[hβ];exact h) (hvar j x) hbg (R.blk t x hx)]at hb
   exact⟨t,x,ht,hx,hb⟩
 refine⟨h1,h2,R.imm,?_,?_,?_,?_,?_,?_,R.glob,?_⟩
 ·intro j x' h
  obtain⟨t,ht,⟨rfl,_⟩ |⟨x,hx,hok,rfl,hβ,hbg⟩⟩:=look j x' h
  ·trivial
  ·exact Zt9 Zqs (fun bi h=>by rw[hβ];exact h) (hvar j x) hbg (R.blk t x hx)
 ·intro j x' b h hb
  obtain⟨t,x,ht,hx,hb⟩:=hown j x' b h hb
  exact⟨h3 t x b (Xx ht) hx hb,(R.own t x b hx hb).2⟩
 ·intro j x j' x' b h h' hb hb'
  obtain⟨t,y,ht,hy,e⟩:=hown j x b h hb
  obtain⟨t',y',ht',hy',e'⟩:=hown j' x' b h' hb'
  have:=R.apart t y t' y' b hy hy' e e'
  subst this
  exact(Xbg (Xh.1 ht).1 hnd).1 (ht.trans ht'.symm)
 ·intro j g h
  rw[ZkL]at h
  unfold ZbD
  rw[X6 h]
 ·intro j g h
  obtain⟨t,ht,⟨_,h⟩ |⟨x,hx,hok,h,hβ,hbg⟩⟩:=look j _ h
  ·exact h g
  ·cases x<;>first |(simp only[okB]at hok;cases hok;done) |(simp only[renB]at h;cases h;done)
 ·intro j b g h hg
  obtain⟨t,ht,⟨_,h⟩ |⟨x,hx,hok,rfl,hβ,hbg⟩⟩:=look j _ h
  ·exact h g
  ·rw[Zxx (hvar j x) (fun hb=>by unfold newGen;rw[if_pos hb]) hok]at hg
   simp only[ZbD,ht,hx,hok,if_true]
   by_cases hb:1000<=genB x
   ·have hn:newGen m j x=genB x:=by unfold newGen;rw[if_pos hb]
    rw[if_pos hb,if_pos (Xp (by omega))]
    exact R.gen t x g hx (by omega)
   ·rw[if_neg hb,if_neg (by omega),if_neg (by omega)]
 ·intro j x' b h hb
  obtain⟨t,ht,⟨rfl,_⟩ |⟨x,hx,hok,rfl,hβ,hbg⟩⟩:=look j x' h
  ·cases hb
  ·exact h4 t x b (Xx ht) hx ((ZzT (fun bi h=>by rw[hβ];exact h) (hvar j x) hbg (R.blk t x hx) b).1 hb)
theorem ZhN:∀ (n:Nat) (todo acc:List Nat),acc.Nodup->(reach σ n todo acc).Nodup/\∃ r,reach σ n todo acc=acc++r
 |0,todo,acc,h=>⟨h,[],by simp[reach]⟩
 |n+1,[],acc,h=>⟨h,[],by simp[reach]⟩
 |n+1,t::todo,acc,h=>by
  simp only[reach]
  split
  ·exact ZhN n todo acc h
  ·rename_i hc
   have hnd:(acc++[t]).Nodup:=by
    rw[Xak]
    refine⟨h,by simp,?_⟩
    intro a ha b hb
    simp only[XM]at hb
    subst hb
    rintro rfl
    simp[ha]at hc
   obtain⟨h1,r,h2⟩:=ZhN n (refsB (σ.getD t .free)++todo) (acc++[t]) hnd
   exact⟨h1,t::r,by rw[h2];simp⟩
def KeptE(m:Nat)(β β':Bmap):Prop:=∀ t,t<m->∀ g bi,(g=0\/1000<=g)->β t g=some bi->β' t g=some bi
theorem KeptE.refl(m:Nat)(β:Bmap):KeptE m β β:=fun _ _ _ _ _ h=>h
theorem KeptE.trans{m:Nat}{a b c:Bmap}(h:KeptE m a b)(h':KeptE m b c):KeptE m a c:=fun t ht g bi hg e=>h' t ht g bi hg (h t ht g bi hg e)
theorem KeptE.of_le{m:Nat}(h:β.le β'):KeptE m β β':=fun t _ g bi _ e=>h t g bi e
theorem KeptE.zero{m:Nat}(h:KeptE m β β'){t:Nat}(ht:t<m){bi:BI}(e:β t 0=some bi):β' t 0=some bi:=h t ht 0 bi (Xp rfl) e
theorem Zus(R:Rel base w0 I0 I β σ w)(m:Nat)(roots:List AVal):∃ β',KeptE m β β'/\Rel base w0 I0 I β' (gcA m roots σ).2 w/\Zgk (rhoOf σ m (gcIds m roots σ)) β β':=by
 obtain⟨hnd,r,hr⟩:=ZhN (σ:=σ) 1000 (refsL roots++(WK m).flatMap fun t=>refsB (σ.getD t .free)) (WK m) List.nodup_range
 have hids:gcIds m roots σ=WK m++r:=hr
 refine⟨ZbD σ m (gcIds m roots σ) β,?_,R.pick hnd R.below R.old (fun t x b _ hx hb=>(R.own t x b hx hb).1) (fun t x b _ hx hb=>R.ro t x b hx hb),Zqs⟩
 intro t ht g bi hg hb
 have h1:(gcIds m roots σ)[t]?=some t:=by rw[hids,Wh (by simpa using ht)];simp[ht]
 unfold ZbD
 simp only[h1]
 cases hx:σ[t]? with
 |none =>
  have : β t g=none:=R.fresh t g (by simpa using hx)
  rw[this]at hb;cases hb
 |some x =>
  simp only
  have hok:okB x=true:=by
   cases x with
   |free=>rw[R.free t g hx]at hb;cases hb
   |map es=>rfl
   |rmap es=>rfl
   |gmap=>rfl
   |siter=>rfl
   |opq=>rfl
   |book=>rfl
   |rrow=>rfl
   |var=>rfl
   |row=>rfl
   |frow=>rfl
   |arena=>rfl
   |rarena=>rfl
   |bag=>rfl
   |dead=>rfl
  rw[if_pos hok]
  by_cases hbig:1000<=genB x
  ·rw[if_pos hbig,if_pos (by omega)];exact hb
  rw[if_neg hbig]
  have g0:g=0:=by
   rcases hg with hg |hg
   ·exact hg
   ·rw[R.gen t x g hx (by omega)]at hb;cases hb
  subst g0
  split
  ·rename_i e
   have : genB x=0:=by
    unfold newGen at e
    rw[if_neg hbig]at e
    by_cases h0:genB x=0
    ·exact h0
    ·rw[if_pos ⟨ht,h0⟩]at e;cases e
   rw[this];exact hb
  ·rw[if_pos ⟨ht,rfl⟩];exact hb
theorem Zzi:∀ (tm:Tms) (n:Nat),tget ((tm.map (·.1)).zip (renL ρ (tm.map (·.2)))) n=renV ρ (tget tm n)
 | [],n=>by simp[tget,renV]
 |(d,v)::tm,n=>by
  simp only[Xn,renL,Wj,tget]
  split
  ·rfl
  ·exact Zzi tm n
theorem ZmZ(R:Rel base w0 I0 I β σ w){tm:Tms}{tmps:Array Value}(T:TR I β tm tmps)(m:Nat):∃ β',KeptE m β β'/\Rel base w0 I0 I β' (gcT m tm σ).2 w/\TR I β' (gcT m tm σ).1 tmps:=by
 obtain⟨β',h1,h2,h3⟩:=Zus R m (tm.map (·.2))
 refine⟨β',h1,h2,fun n=>?_⟩
 show VR I β' (tget ((tm.map (·.1)).zip (renL _ (tm.map (·.2)))) n) _
 rw[Zzi]
 exact Zg0 h3 _ _ (T n)
def Ends(r:AVal)(e:Ending)(u:Value):Prop:=match r with
 | .pan _=>e=.panicked [{ v:=u,recovered:=false }]
 |_=>e=.returned u
def ZaC:AVal->AVal
 | .pan x=>x
 |x=>x
def ZcY(m:Nat)(base:Nat->Prop)(w0:World)(I0 I:Imm)(β:Bmap)(r:AVal)(σ':Za)(u:Value)(w':World):Prop :=
 ∃ I' β',I.le I'/\KeptE m β β'/\Rel base w0 I0 I' β' σ' w'/\VR I' β' (ZaC r) u
theorem Ends.ren{r:AVal}{e:Ending}{u:Value}(h:Ends r e u):Ends (renV ρ r) e u:=by
 cases r<;>first
  |exact h
  |(simp only[renV];split<;>exact h)
  |(simp only[renV];split<;>(try split)<;>exact h)
theorem Zf7{r:AVal}(h:∀ x,r≠.pan x):ZaC r=r:=by
 cases r<;>first |rfl |exact absurd rfl (h _)
theorem ZMK{r:AVal}(h:∀ x,r≠.pan x):∀ x,renV ρ r≠.pan x:=by
 intro x
 cases r<;>first
  |(intro e;simp only[renV]at e;cases e;done)
  |exact absurd rfl (h _)
  |(simp only[renV];split<;>(try split)<;>simp)
theorem ZpV(r:AVal):ZaC (renV ρ r)=renV ρ (ZaC r)\/∃ x,r=.pan x:=by
 by_cases h:∃ x,r=.pan x
 ·exact Xt h
 ·have h':∀ x,r≠.pan x:=fun x e=>h ⟨x,e⟩
  exact Xp (by rw[Zf7 (ZMK h'),Zf7 h'])
theorem Zpa{m:Nat}{r r':AVal}{u:Value}(h:ZcY m base w0 I0 I β r σ u w)(he:outA m σ r=some (r',σ')):ZcY m base w0 I0 I β r' σ' u w/\∀ e,Ends r e u->Ends r' e u:=by
 obtain⟨I1,β1,h1,h2,h3,h4⟩:=h
 obtain⟨β2,g1,g2,g3⟩:=Zus h3 m [r]
 unfold outA gcA at he
 simp only[renL,Xa,Xc]at he
 obtain⟨rfl,rfl⟩:=he
 refine⟨⟨I1,β2,h1,h2.trans g1,g2,?_⟩,fun e he=>he.ren⟩
 have:=Zg0 g3 _ _ h4
 rcases ZpV (ρ:=rhoOf σ m (gcIds m [r] σ)) r with e |⟨x,rfl⟩
 ·rw[e];exact this
 ·exact this
theorem ZFB{m:Nat}{r r':AVal}{h h':Za}{u:Value}(hp:ZcY m base w0 I0 I β r h u w)(he:ZaI m (some (r,h))=some (r',h')):ZcY m base w0 I0 I β r' h' u w/\∀ e,Ends r e u->Ends r' e u:=by
 by_cases hpan:∃ x,r=.pan x
 ·obtain⟨x,rfl⟩:=hpan
  simp only[ZaI,Xa,Xc]at he
  obtain⟨rfl,rfl⟩:=he
  exact⟨hp,fun _ h=>h⟩
 ·have hv0:ZaC r=r:=by cases r<;>first |rfl |exact absurd ⟨_,rfl⟩ hpan
  have hends:∀ e,Ends r e u->e=.returned u:=by
   intro e h
   cases r<;>first |exact h |exact absurd ⟨_,rfl⟩ hpan
  have he':(match viewR h r with
   |some (r',ts)=>match gcA m [r'] (Zj h ts)with
    |([r''],σ')=>some (r'',σ')
    |_=>none
   |none=>none)=some (r',h'):=by
   cases r<;>first |exact he |exact absurd ⟨_,rfl⟩ hpan
  split at he'
  ·rename_i r1 ts hview
   obtain⟨I1,β1,h1,h2,h3,h4⟩:=hp
   rw[hv0]at h4
   obtain⟨I2,k1,k2,k3,_,k5,_,_⟩:=ZhX ts h3
   have hres:=ZJ0 k2 (k5 (ZSl hview)) (by rw[k3.viewR];exact hview) (h4.mono k1 (Bmap.le.refl β1) _ _)
   have hnp:∀ x,r1≠.pan x:=by rintro x rfl;simp only[VR]at hres
   have hv1:ZaC r1=r1:=by cases r1<;>first |rfl |exact absurd rfl (hnp _)
   have ho:outA m (Zj h ts) r1=some (r',h'):=he'
   obtain⟨q1,q2⟩:=Zpa (⟨I2,β1,h1.trans k1,h2,k2,by rw[hv1];exact hres.mono (Imm.le.refl I2) (Zj8 β1) _ _⟩:ZcY m base w0 I0 I β r1 (Zj h ts) u w) ho
   refine⟨q1,fun e he=>q2 e ?_⟩
   rw[hends e he]
   cases r1<;>first |rfl |exact absurd rfl (hnp _)
  ·cases he'
end
end
section
open Go.RowKit
def Zar(P:Program)(O:ZJ):Prop:=∀ f args σ r σ',O f args σ=some (r,σ') ->
 (∃ fn,P.funcs[f]?=some fn/\fn.body.isSome=true/\(fn.name == "runtime.NumGoroutine")=false) /\
 ∀ base w0 I0 I β w (vs:Array Value),KLt base w0->Rel base w0 I0 I β σ w->VRs I β args vs.toList ->
  Calls P f vs w (fun e w'=>∃ u,Ends r e u/\ZcY σ.length base w0 I0 I β r σ' u w')
section
variable {P:Program}{base:Nat->Prop}{w0 w w':World}{I0 I I':Imm}{β β':Bmap}{σ σ':Za}{tm:Tms}
theorem Zmh{a:Act}(T:TR I β tm a.tmps):∀ {xs:List Operand} {ys:List Opd},ZcW xs=some ys->VRs I β (ys.map fun y=>y.ev tm) (xs.map a.eval)
 | [],ys,h=>by simp only[ZcW,Xa]at h;subst h;simp[VRs]
 |x::xs,ys,h=>by
  simp only[ZcW]at h
  split at h
  ·rename_i y hy
   split at h
   ·rename_i ys' hys
    injection h with h;subst h
    simp only[Xn,VRs]
    exact⟨_,_,rfl,Z4 T hy,Zmh T hys⟩
   ·cases h
  ·cases h
theorem Zkq{a:Act}(T:TR I β tm a.tmps){x:Option Operand}{y:Option Opd}(h:Zhg x=some y):OVR I β (y.map fun y=>y.ev tm) (x.map a.eval):=by
 cases x with
 |none=>simp only[Zhg,Xa]at h;subst h;rfl
 |some x =>
  simp only[Zhg,Xq]at h
  obtain⟨y',h1,rfl⟩:=h
  exact⟨_,rfl,Z4 T h1⟩
theorem Zpf{f:FuncId}{args:Array Value}{fn:Func}(h1:P.funcs[f]?=some fn)(h2:fn.body.isSome=true)(h3:(fn.name == "runtime.NumGoroutine")=false):(callFunc f args).run P w=.ok (.enter f args) w:=by
 have h2':fn.body.isNone=false:=by cases hb:fn.body<;>simp_all
 have h3':¬fn.name = "runtime.NumGoroutine":=by simpa using h3
 have h2'':fn.body≠none:=by cases hb:fn.body<;>simp_all
 simp[callFunc,h1,h2'',h3']
section
variable {ids:List Nat}{sq:Nat}{ρ:Rho}
theorem Zjk{σ0:Za}{t:Nat}:∀ {h:Za} {j:Nat} {σ:Za},(∀ i,i<h.length->Zay ids sq (j+i)≠t)->(Za4 σ0 ids sq h j σ)[t]?=σ[t]?
 | [],j,σ,_=>rfl
 |b::bs,j,σ,hn=>by
  simp only[Za4]
  rw[Zjk (fun i hi=>by have:=hn (i+1) (by simp;omega);rwa [show j+(i+1)=j+1+i by omega]at this),Xr,if_neg (by have:=hn 0 (by simp);simpa using this)]
theorem ZtZ{σ0:Za}:∀ {h:Za} {j i:Nat} {σ:Za} {b:Zx},(∀ i i',i<h.length->i'<h.length->Zay ids sq (j+i)=Zay ids sq (j+i')->i=i')->h[i]?=some b->Zay ids sq (j+i)<σ.length ->
  (Za4 σ0 ids sq h j σ)[Zay ids sq (j+i)]?=some (renB (ZaR σ0 ids sq) (ZbF σ0 ids (j+i) b) b)
 | [],j,i,σ,b,_,h,_=>by simp at h
 |b'::bs,j,0,σ,b,hinj,h,hlt=>by
  simp only[XE,Xa]at h
  subst h
  simp only[Za4,Wg]at hlt ⊢
  rw[Zjk,Xr,if_pos rfl,if_pos hlt]
  intro i hi e
  have:=hinj (i+1) 0 (by simp;omega) (by simp) (by rw[show j+(i+1)=j+1+i by omega];simpa using e)
  omega
 |b'::bs,j,i+1,σ,b,hinj,h,hlt=>by
  simp only[XP]at h
  simp only[Za4]
  rw[show j+(i+1)=j+1+i by omega]at hlt ⊢
  refine ZtZ (fun a a' ha ha' e=>?_) h (by simpa using hlt)
  have:=hinj (a+1) (a'+1) (by simp;omega) (by simp;omega) (by rw[show j+(a+1)=j+1+a by omega,show j+(a'+1)=j+1+a' by omega];exact e)
  omega
theorem Zx8{σ0:Za}:∀ {h:Za} {j:Nat} {σ:Za},(Za4 σ0 ids sq h j σ).length=σ.length
 | [],j,σ=>rfl
 |b::bs,j,σ=>by simp only[Za4];rw[Zx8];simp
theorem ZeT{σ0:Za}:∀ {h:Za} {j i:Nat} {b:Zx},ZbO σ0 ids h j=true->h[i]?=some b->okB b=true/\(match ids[j+i]? with
  |some t=>Zd5 (σ0.getD t .free) b=true/\(if 1000<=genB (σ0.getD t .free)then 1000<=genB b else genB b<=1)
  |none=>(genB b=0\/1000<=genB b)/\Zkp b=false)
 | [],j,i,b,_,h=>by simp at h
 |b'::bs,j,0,b,hok,h=>by
  simp only[XE,Xa]at h
  subst h
  simp only[ZbO,Xj]at hok
  refine⟨hok.1.1,?_⟩
  rw[Wg]
  have:=hok.1.2
  revert this
  cases ids[j]? with
  |none=>intro h;simpa using h
  |some t=>intro h;simp only[Xj]at h;refine⟨h.1,?_⟩;have h2:=h.2;by_cases hb:1000<=genB (σ0.getD t .free)<;>simp only[hb,if_true,if_false,decide_eq_true_eq]at h2 ⊢ <;> exact h2
 |b'::bs,j,i+1,b,hok,h=>by
  simp only[XP]at h
  simp only[ZbO,Xj]at hok
  have:=ZeT hok.2 h
  rwa [show j+1+i=j+(i+1)by omega]at this
theorem ZRf{x y:Zx}(hy:Zek y=true)(h:Zd5 x y=true):genB x=0:=by
 cases x<;>cases y<;>first |rfl |(simp[Zd5]at h;done) |(simp[Zek]at hy;done)
theorem ZvJ{y:Zx}(hy:Zek y=true):genB y=0:=by
 cases y<;>first |rfl |(simp[Zek]at hy;done)
theorem ZiB:∀ {n sq i:Nat},Zbv σ sq n=true->i<n->σ[sq+i]?=some .free
 |0,_,_,_,hi=>by omega
 |n+1,sq,0,h,_=>by
  simp only[Zbv,Xj]at h
  have:=h.1
  unfold freeAt at this
  split at this
  ·rename_i e;simpa using e
  ·cases this
 |n+1,sq,i+1,h,hi=>by
  simp only[Zbv,Xj]at h
  have:=ZiB (i:=i) h.2 (by omega)
  rwa [show sq+1+i=sq+(i+1)by omega]at this
theorem ZxG{t:Nat}:∀ {ids:List Nat} {i j:Nat},ids.Nodup->ids[j]?=some t->idxA t ids i=some (i+j)
 | [],i,j,_,h=>by simp at h
 |x::xs,i,0,_,h=>by
  simp only[XE,Xa]at h
  simp[idxA,h]
 |x::xs,i,j+1,hn,h=>by
  simp only[XP]at h
  rw[WA]at hn
  have hne:x≠t:=by rintro rfl;exact hn.1 (Xx h)
  simp only[idxA,hne,if_false]
  rw[ZxG hn.2 h]
  congr 1;omega
theorem ZpH{t:Nat}:∀ {ids:List Nat} {i:Nat},t∉ids->idxA t ids i=none
 | [],i,_=>rfl
 |x::xs,i,h=>by
  simp only[XI,not_or]at h
  have hne:x≠t:=fun e=>h.1 e.symm
  simp only[idxA,hne,if_false]
  exact ZpH h.2
def Zeb(σ:Za)(ids:List Nat)(sq n:Nat)(β β1:Bmap):Bmap:=fun t g=>match idxA t ids 0 with
 |some j=>if 1000<=genB (σ.getD t .free)then(if 1000<=g then β1 j g else β t g)else if g<=genB (σ.getD t .free)then β t g else if g=genB (σ.getD t .free)+1 then β1 j 1 else none
 |none=>if sq<=t/\t<sq+n then(if g=0\/1000<=g then β1 (ids.length+(t-sq)) g else none)else β t g
theorem Rel.back{Ic:Imm}{βc:Bmap}{h:Za}{n:Nat}(R:Rel base w0 I0 I β σ w)(hb:KLt base w0)(hnd:ids.Nodup)(hok:ids.all (fun t=>okB (σ.getD t .free))=true)
  (Rc:Rel (fun b=>b<w.heap.size/\∀ t∈ids,∀ x,σ[t]?=some x->¬Zo w β t x b) w I Ic βc h w') (hI:I.le Ic) (hkept:KeptE ids.length (ZbD σ 0 ids β) βc)
  (h1:h.length<=ids.length+n) (h2:ids.length<=h.length) (h3:ZbO σ ids h 0=true) (h4:Zbv σ sq n=true) :
  ∃ β2,β.le β2/\Rel base w0 I0 Ic β2 (Za4 σ ids sq h 0 σ) w'/\Zgk (ZaR σ ids sq) βc β2:=by
 have hbw:=R.base_le hb
 have hblk:∀ t,t∈ids->∃ x,σ[t]?=some x/\okB x=true/\σ.getD t .free=x/\(genB x<1000->∃ bi,β t (genB x)=some bi):=by
  intro t ht
  have h0:=XF.1 hok t ht
  cases hx:σ[t]? with
  |none=>simp[Xi,hx,okB]at h0
  |some x =>
   have hd:σ.getD t .free=x:=by simp[Xi,hx]
   rw[hd]at h0
   refine⟨x,rfl,h0,hd,fun hsm=>?_⟩
   have hB:=R.blk t x hx
   cases x with
   |free=>simp[okB]at h0
   |map es=>obtain⟨b,k,c,_,_,e,_⟩:=hB;exact⟨_,e⟩
   |siter l p=>obtain⟨b,k,c,e,_⟩:=hB;exact⟨_,e⟩
   |opq=>exact hB
   |rmap es=>obtain⟨b,k,c,_,_,e,_⟩:=hB;exact⟨_,e⟩
   |gmap k es=>obtain⟨b,k',c,e,_⟩:=hB;exact⟨_,e⟩
   |book n p=>obtain⟨b,k,c,vs,e,_⟩:=hB;exact⟨_,e⟩
   |rrow g k xs=>obtain⟨bi,e,_⟩:=hB;exact⟨_,e⟩
   |var cs=>obtain⟨b,k,c,us,ty,e,_⟩:=hB;exact⟨_,e⟩
   |row g k xs=>obtain⟨bi,e,_⟩:=hB;exact⟨_,e⟩
   |frow g k xs=>obtain⟨bi,e,_⟩:=hB;exact⟨_,e⟩
   |arena ns=>exact absurd hsm (by simp only[genB];omega)
   |rarena ns=>exact absurd hsm (by simp only[genB];omega)
   |dead g=>exact absurd hsm (by simp only[genB];omega)
   |bag g k q=>obtain⟨xs,_,bi,e,_⟩:=hB;exact⟨_,e⟩
 have hnot:∀ i,i<n->sq+i∉ids:=by
  intro i hi hm
  obtain⟨x,hx,hk,_⟩:=hblk _ hm
  rw[ZiB h4 hi]at hx
  injection hx with hx;subst hx;simp[okB]at hk
 have tgt_ids:∀ j t,ids[j]?=some t->Zay ids sq j=t:=by intro j t ht;simp[Zay,Xi,ht]
 have tgt_new:∀ j,ids.length<=j->Zay ids sq j=sq+(j-ids.length):=by intro j hj;simp[Zay,Xi,X6 hj]
 have split_j:∀ j,j<h.length->(∃ t,ids[j]?=some t/\t∈ids/\Zay ids sq j=t)\/(ids.length<=j/\ids[j]?=none/\j-ids.length<n/\Zay ids sq j=sq+(j-ids.length)):=by
  intro j hj
  by_cases hlt:j<ids.length
  ·have e:ids[j]?=some ids[j]:=XB hlt
   exact Xp ⟨ids[j],e,Xap hlt,tgt_ids _ _ e⟩
  ·exact Xt ⟨by omega,X6 (by omega),by omega,tgt_new j (by omega)⟩
 have inj:∀ i i',i<h.length->i'<h.length->Zay ids sq (0+i)=Zay ids sq (0+i')->i=i':=by
  intro i i' hi hi' e
  rw[Xv,Xv]at e
  rcases split_j i hi with⟨t,a1,a2,a3⟩ |⟨a1,_,a3,a4⟩<;>rcases split_j i' hi' with⟨t',b1,b2,b3⟩ |⟨b1,_,b3,b4⟩
  ·rw[a3,b3]at e;subst e
   exact(Xbg (Xh.1 a1).1 hnd).1 (a1.trans b1.symm)
  ·rw[a3,b4]at e;subst e;exact absurd a2 (hnot _ b3)
  ·rw[a4,b3]at e;subst e;exact absurd b2 (hnot _ a3)
  ·rw[a4,b4]at e;omega
 have tlt:∀ j,j<h.length->Zay ids sq j<σ.length:=by
  intro j hj
  rcases split_j j hj with⟨t,a1,a2,a3⟩ |⟨a1,_,a3,a4⟩
  ·rw[a3]
   obtain⟨x,hx,_⟩:=hblk t a2
   exact(Xh.1 hx).1
  ·rw[a4];exact(Xh.1 (ZiB h4 a3)).1
 have look:∀ t x',(Za4 σ ids sq h 0 σ)[t]?=some x'->(∃ j b,h[j]?=some b/\t=Zay ids sq j/\x'=renB (ZaR σ ids sq) (ZbF σ ids j b) b)\/((∀ j,j<h.length->Zay ids sq j≠t)/\σ[t]?=some x'):=by
  intro t x' hx
  by_cases hex:∃ j,j<h.length/\Zay ids sq j=t
  ·obtain⟨j,hj,rfl⟩:=hex
   have:=ZtZ (σ0:=σ) (σ:=σ) (j:=0) (i:=j) inj (XB hj) (by rw[Xv];exact tlt j hj)
   rw[Xv]at this
   rw[this]at hx
   injection hx with hx
   exact Xp ⟨j,h[j],XB hj,rfl,hx.symm⟩
  ·have hn:∀ j,j<h.length->Zay ids sq j≠t:=fun j hj e=>hex ⟨j,hj,e⟩
   rw[Zjk (fun i hi=>by rw[Xv];exact hn i hi)]at hx
   exact Xt ⟨hn,hx⟩
 have out:∀ t,(∀ j,j<h.length->Zay ids sq j≠t)->t∉ids/\∀ g,Zeb σ ids sq (h.length-ids.length) β βc t g=β t g:=by
  intro t hn
  have h0:t∉ids:=by
   intro hm
   obtain⟨j,hj⟩:=List.mem_iff_getElem?.1 hm
   exact hn j (by have:=(Xh.1 hj).1;omega) (tgt_ids j t hj)
  refine⟨h0,fun g=>?_⟩
  unfold Zeb
  rw[ZpH h0]
  simp only
  rw[if_neg]
  rintro⟨q1,q2⟩
  exact hn (ids.length+(t-sq)) (by omega) (by rw[tgt_new _ (by omega)];omega)
 have atIds:∀ j t,ids[j]?=some t->∀ g,Zeb σ ids sq (h.length-ids.length) β βc t g=if 1000<=genB (σ.getD t .free)then(if 1000<=g then βc j g else β t g)else if g<=genB (σ.getD t .free)then β t g else if g=genB (σ.getD t .free)+1 then βc j 1 else none:=by
  intro j t hj g
  unfold Zeb
  rw[ZxG hnd hj]
  simp only[Xv]
 have atNew:∀ i,i<h.length-ids.length->∀ g,Zeb σ ids sq (h.length-ids.length) β βc (sq+i) g=if g=0\/1000<=g then βc (ids.length+i) g else none:=by
  intro i hi g
  unfold Zeb
  rw[ZpH (hnot i (by omega))]
  simp only
  rw[if_pos ⟨by omega,by omega⟩,show sq+i-sq=i by omega]
 have hle:β.le (Zeb σ ids sq (h.length-ids.length) β βc):=by
  intro t g bi e
  by_cases hex:∃ j,j<h.length/\Zay ids sq j=t
  ·obtain⟨j,hj,rfl⟩:=hex
   rcases split_j j hj with⟨t,a1,a2,a3⟩ |⟨a1,_,a3,a4⟩
   ·rw[a3]at e ⊢
    rw[atIds j t a1]
    obtain⟨x,hx,hxk,hd,_⟩:=hblk t a2
    by_cases hbig:1000<=genB (σ.getD t .free)
    ·rw[if_pos hbig]
     split
     ·rename_i hg
      refine hkept j (Xh.1 a1).1 g bi (Xt hg) ?_
      unfold ZbD
      have hk:okB x=true:=by assumption
      simp only[a1,hx,hk,if_true]
      rw[hd]at hbig
      rw[if_pos hbig,if_pos (Xp hg)];exact e
     ·exact e
    rw[if_neg hbig,if_pos]
    ·exact e
    ·rcases Xax (genB (σ.getD t .free)) g with hlt |hge
     ·rw[hd]at hlt;rw[R.gen t x g hx hlt]at e;cases e
     ·exact hge
   ·rw[a4]at e
    rw[R.free _ g (ZiB h4 a3)]at e;cases e
  ·rw[(out t fun j hj e=>hex ⟨j,hj,e⟩).2];exact e
 have kept:∀ j t,ids[j]?=some t->¬1000<=genB (σ.getD t .free)->∀ bi,βc j 0=some bi->β t (genB (σ.getD t .free))=some bi:=by
  intro j t hj hsm bi e
  obtain⟨x,hx,hk,hd,hb0⟩:=hblk t (Xx hj)
  rw[hd]at hsm
  obtain⟨bi0,hb0⟩:=hb0 (by omega)
  have hp:ZbD σ 0 ids β j 0=some bi0:=by
   unfold ZbD
   simp only[hj,hx,hk,if_true]
   rw[if_neg hsm,if_pos (by simp[newGen,hsm])];exact hb0
  have:=hkept.zero (Xh.1 hj).1 hp
  rw[this]at e;injection e with e;subst e
  rw[hd];exact hb0
 have hρ:Zgk (ZaR σ ids sq) βc (Zeb σ ids sq (h.length-ids.length) β βc):=by
  intro j g t' g' bi hr hbi
  have hjlt:j<h.length:=by
   rcases Xax j h.length with hlt |hge
   ·exact hlt
   ·rw[Rc.fresh j g hge]at hbi;cases hbi
  have hj':=XB hjlt
  obtain⟨k1,k2⟩:=ZeT h3 hj'
  rw[Xv]at k2
  have hgen:¬genB h[j]<g:=fun hlt=>by rw[Rc.gen j _ g hj' hlt]at hbi;cases hbi
  rcases split_j j hjlt with⟨t,a1,a2,a3⟩ |⟨a1,a2,a3,a4⟩
  ·simp only[ZaR,a1]at hr
   rw[a1]at k2
   by_cases hbig:1000<=genB (σ.getD t .free)
   ·rw[if_pos hbig]at hr
    split at hr
    case isFalse=>cases hr
    rename_i hg
    simp only[Xa,Xc]at hr
    obtain⟨rfl,rfl⟩:=hr
    rw[atIds j _ a1,if_pos hbig,if_pos hg];exact hbi
   rw[if_neg hbig]at hr
   simp only[Xa,Xc]at hr
   obtain⟨rfl,rfl⟩:=hr
   have k3:=k2.2
   rw[if_neg hbig]at k3
   rw[atIds j _ a1,if_neg hbig]
   have : g=0\/g=1:=by omega
   rcases this with rfl |rfl
   ·rw[if_pos (by omega)];exact kept j _ a1 hbig bi hbi
   ·rw[if_neg (by omega),if_pos rfl];exact hbi
  ·simp only[ZaR,a2]at hr
   split at hr
   case isFalse=>cases hr
   rename_i hg
   simp only[Xa,Xc]at hr
   obtain⟨rfl,rfl⟩:=hr
   rw[atNew _ (by omega),if_pos hg,show ids.length+(j-ids.length)=j by omega]
   exact hbi
 have hvar:∀ j b,h[j]?=some b->Zek b=true->ZbF σ ids j b=0:=by
  intro j b hj e
  have hjlt:=(Xh.1 hj).1
  obtain⟨k1,k2⟩:=ZeT h3 hj
  rw[Xv]at k2
  unfold ZbF
  rcases split_j j hjlt with⟨t,a1,a2,a3⟩ |⟨a1,a2,a3,a4⟩
  ·rw[a1]at k2 ⊢
   simp only at k2 ⊢
   obtain⟨x,hx,hk,hd,_⟩:=hblk t a2
   rw[hd]at k2 ⊢
   rw[ZRf e k2.1,ZvJ e]
   simp
  ·rw[a2];exact ZvJ e
 have hbig:∀ j b,h[j]?=some b->1000<=genB b->(∀ g,1000<=g->Zeb σ ids sq (h.length-ids.length) β βc (Zay ids sq j) g=βc j g)/\ZbF σ ids j b=genB b:=by
  intro j b hj e
  have hjlt:=(Xh.1 hj).1
  obtain⟨k1,k2⟩:=ZeT h3 hj
  rw[Xv]at k2
  unfold ZbF
  rcases split_j j hjlt with⟨t,a1,a2,a3⟩ |⟨a1,a2,a3,a4⟩
  ·rw[a1]at k2 ⊢
   simp only at k2 ⊢
   by_cases hb:1000<=genB (σ.getD t .free)
   ·refine⟨fun g hg=>?_,by rw[if_pos hb]⟩
    rw[a3,atIds j t a1,if_pos hb,if_pos hg]
   ·have:=k2.2
    rw[if_neg hb]at this
    omega
  ·rw[a2]
   refine⟨fun g hg=>?_,rfl⟩
   rw[a4,atNew _ (by omega),if_pos (Xt hg),show ids.length+(j-ids.length)=j by omega]
 have hβg:∀ j b,h[j]?=some b->∀ bi,βc j (genB b)=some bi->Zeb σ ids sq (h.length-ids.length) β βc (Zay ids sq j) (ZbF σ ids j b)=some bi:=by
  intro j b hj bi e
  have hjlt:=(Xh.1 hj).1
  refine hρ j (genB b) _ _ bi ?_ e
  obtain⟨k1,k2⟩:=ZeT h3 hj
  rw[Xv]at k2
  rcases split_j j hjlt with⟨t,a1,a2,a3⟩ |⟨a1,a2,a3,a4⟩
  ·rw[a1]at k2
   simp only[ZaR,ZbF,a1,a3]
   have:=k2.2
   split at this
   ·rename_i hb;rw[if_pos hb,if_pos this,if_pos hb]
   ·rename_i hb;rw[if_neg hb,if_neg hb]
  ·rw[a2]at k2
   simp only[ZaR,ZbF,a2,a4]
   rw[if_pos k2.1]
 have hKK:∀ b,base b->b<w.heap.size/\∀ t∈ids,∀ x,σ[t]?=some x->¬Zo w β t x b:=by
  intro b hB
  exact⟨hbw b hB,fun t _ x hx e=>(R.own t x b hx e).1 hB⟩
 have hown:∀ j b,h[j]?=some b->Zo w' (Zeb σ ids sq (h.length-ids.length) β βc) (Zay ids sq j) (renB (ZaR σ ids sq) (ZbF σ ids j b) b)=Zo w' βc j b:=fun j b hj =>
  Zvb (hβg j b hj) (hvar j b hj) (fun e=>(hbig j b hj e).1) (Rc.blk j b hj)
 have oth:∀ t x b,t∉ids->σ[t]?=some x->Zo w β t x b->b<w.heap.size/\∀ t∈ids,∀ x,σ[t]?=some x->¬Zo w β t x b:=by
  intro t x b hn hx hbb
  refine⟨(R.blk t x hx).owns_lt hbb,fun t' ht' x' hx' e=>hn ?_⟩
  rw[R.apart t x t' x' b hx hx' hbb e];exact ht'
 have cv:∀ t x b,t∉ids->σ[t]?=some x->Zo w' (Zeb σ ids sq (h.length-ids.length) β βc) t x b->Zo w β t x b:=fun t x b hn hx=>((R.blk t x hx).owns_at hle (fun b hbb=>Rc.below.block b (oth t x b hn hx hbb)) b).1
 refine⟨_,hle,⟨R.below.trans (Rc.below.mono hKK),fun b o hB=>(Rc.old b o (hKK b hB)).trans (R.old b o hB),Rc.imm,?_,?_,?_,?_,?_,?_,Rc.glob,?_⟩,hρ⟩
 ·intro t x' hx
  rcases look t x' hx with⟨j,b,hj,rfl,rfl⟩ |⟨hn,hx⟩
  ·exact Zt9 hρ (hβg j b hj) (hvar j b hj) (fun e=>(hbig j b hj e).1) (Rc.blk j b hj)
  ·refine(R.blk t x' hx).keep hI hle (fun b hbb=>Rc.below.block b (oth t x' b (out t hn).1 hx hbb)) (fun b hs=>Rc.below.block b (hKK b (R.ro t x' b hx hs)))
 ·intro t x' b hx hbb
  rcases look t x' hx with⟨j,b',hj,rfl,rfl⟩ |⟨hn,hx⟩
  ·rw[hown j b' hj]at hbb
   have:=Rc.own j b' b hj hbb
   exact⟨fun hB=>this.1 (hKK b hB),this.2⟩
  ·replace hbb:=cv t x' b (out t hn).1 hx hbb
   refine⟨(R.own t x' b hx hbb).1,fun o=>?_⟩
   rw[Rc.old b o (oth t x' b (out t hn).1 hx hbb)]
   exact(R.own t x' b hx hbb).2 o
 ·intro t x t' x' b hx hx' hbb hbb'
  rcases look t x hx with⟨j,c,hj,rfl,rfl⟩ |⟨hn,hx⟩<;>rcases look t' x' hx' with⟨j',c',hj',rfl,rfl⟩ |⟨hn',hx'⟩
  ·rw[hown j c hj]at hbb;rw[hown j' c' hj']at hbb'
   rw[Rc.apart j c j' c' b hj hj' hbb hbb']
  ·rw[hown j c hj]at hbb;replace hbb':=cv t' x' b (out t' hn').1 hx' hbb'
   exact absurd (oth t' x' b (out t' hn').1 hx' hbb') (Rc.own j c b hj hbb).1
  ·rw[hown j' c' hj']at hbb';replace hbb:=cv t x b (out t hn).1 hx hbb
   exact absurd (oth t x b (out t hn).1 hx hbb) (Rc.own j' c' b hj' hbb').1
  ·replace hbb:=cv t x b (out t hn).1 hx hbb;replace hbb':=cv t' x' b (out t' hn').1 hx' hbb'
   exact R.apart t x t' x' b hx hx' hbb hbb'
 ·intro t g ht
  rw[Zx8]at ht
  have hn:∀ j,j<h.length->Zay ids sq j≠t:=fun j hj e=>by have:=tlt j hj;omega
  rw[(out t hn).2];exact R.fresh t g ht
 ·intro t g hx
  rcases look t _ hx with⟨j,b,hj,rfl,e⟩ |⟨hn,hx⟩
  ·have:=(ZeT h3 hj).1
   cases b<;>first |(simp[okB]at this;done) |(simp only[renB]at e;cases e;done)
  ·rw[(out t hn).2];exact R.free t g hx
 ·intro t x' g hx hg
  rcases look t _ hx with⟨j,b,hj,rfl,rfl⟩ |⟨hn,hx⟩
  ·obtain⟨k1,k2⟩:=ZeT h3 hj
   rw[Xv]at k2
   rw[Zxx (hvar j b hj) (fun e=>(hbig j b hj e).2) k1]at hg
   have hjlt:=(Xh.1 hj).1
   by_cases hbb:1000<=genB b
   ·rw[(hbig j b hj hbb).2]at hg
    rw[(hbig j b hj hbb).1 g (by omega)]
    exact Rc.gen j b g hj hg
   rcases split_j j hjlt with⟨t,a1,a2,a3⟩ |⟨a1,a2,a3,a4⟩
   ·rw[a1]at k2
    have k3:=k2.2
    have hsm:¬1000<=genB (σ.getD t .free):=fun e=>by rw[if_pos e]at k3;exact hbb k3
    rw[a3,atIds j t a1,if_neg hsm]
    simp only[ZbF,a1]at hg
    rw[if_neg hsm]at hg
    rw[if_neg (by omega)]
    split
    ·rename_i e
     exact Rc.gen j b 1 hj (by omega)
    ·rfl
   ·rw[a4,atNew _ (by omega)]
    simp only[ZbF,a2]at hg
    split
    ·rename_i hg'
     rw[show ids.length+(j-ids.length)=j by omega]
     exact Rc.gen j b g hj (by omega)
    ·rfl
  ·rw[(out t hn).2];exact R.gen t x' g hx hg
 ·intro t x' b hx hb'
  rcases look t x' hx with⟨j,b',hj,rfl,rfl⟩ |⟨hn,hx⟩
  ·rw[ZzT (hβg j b' hj) (hvar j b' hj) (fun e=>(hbig j b' hj e).1) (Rc.blk j b' hj)]at hb'
   have hjlt:=(Xh.1 hj).1
   obtain⟨k1,k2⟩:=ZeT h3 hj
   rw[Xv]at k2
   cases b' with
   |rmap es =>
    rcases split_j j hjlt with⟨t,a1,a2,a3⟩ |⟨a1,a2,a3,a4⟩
    ·rw[a1]at k2
     simp only at k2
     obtain⟨x,hx,hk,hd,_⟩:=hblk t a2
     obtain⟨b2,k,c,_,_,e1,_⟩:=Rc.blk j _ hj
     rw[hd]at k2
     cases x<;>simp[Zd5]at k2
     rename_i es'
     have e2:=kept j t a1 (by rw[hd];simp[genB]) _ e1
     rw[hd]at e2
     refine R.ro t _ b hx ?_
     simp only[Zaq,e1,XR,Xa]at hb'
     subst hb'
     have e3:β t 0=some ⟨some b2,k,c⟩:=e2
     simp[Zaq,e3]
    ·rw[a2]at k2
     simp at k2
   |rarena ns =>
    rcases split_j j hjlt with⟨t,a1,a2,a3⟩ |⟨a1,a2,a3,a4⟩
    ·rw[a1]at k2
     simp only at k2
     obtain⟨x,hx,hk,hd,_⟩:=hblk t a2
     rw[hd]at k2
     have k3:=k2.1
     cases x<;>simp[Zd5]at k3
     rename_i ms
     obtain⟨g,g1,g2,g3⟩:=hb'
     obtain⟨b1,k,c,e1⟩:=ArenaW.somb (R.blk t _ hx) g1 (by omega)
     have e2:βc j g=some ⟨some b1,k,c⟩:=by
      refine hkept j (Xh.1 a1).1 g _ (Xt (by omega)) ?_
      unfold ZbD
      simp only[a1,hx,hk,if_true]
      rw[if_pos (by simp only[genB];omega),if_pos (Xp (by omega))];exact e1
     refine R.ro t _ b hx ⟨g,g1,by omega,?_⟩
     rw[e1,<-e2];exact g3
    ·rw[a2]at k2
     simp at k2
   |_=>cases hb'
  ·exact R.ro t x' b hx (((R.blk t x' hx).sees_at hle b).1 hb')
end
theorem Rel.after_flat{Ic I1:Imm}{βc:Bmap}{σc:Za}{K':Nat->Prop}(R:Rel base w0 I0 I β σ w)(hb:KLt base w0)(hK:∀ b,b<w.heap.size->K' b)(Rc:Rel K' w I1 Ic βc σc w'):Rel base w0 I0 I β σ w':=by
 have hbw:=R.base_le hb
 refine R.stay (Imm.le.refl I) (Rc.below.mono fun b h=>hK b (hbw b h)) (fun _ _ _=>rfl) (fun b o u h=>?_) (fun t x b h hb'=>⟨Rc.below.block b (hK b ((R.blk t x h).owns_lt hb')),(R.own t x b h hb').2⟩)
 have:=R.imm b o u h
 have hlt:=ZdN this
 rw[<-this]
 simp only[World.cell?,Rc.below.block b (hK b hlt)]
theorem ZQO{I I':Imm}{β β':Bmap}{r:AVal}{u:Value}(hf:ZaQ r=true)(h:VR I β (ZaC r) u):VR I' β' (ZaC r) u:=by
 by_cases hp:∃ x,r=.pan x
 ·obtain⟨x,rfl⟩:=hp
  simp only[ZaC]at h⊢
  cases x<;>simp only[ZaQ,Zas,Z5]at hf<;>first |(cases hf;done) |skip
  case iface t x =>
   simp only[VR]at h⊢
   obtain⟨u',h1,h2⟩:=h
   exact⟨u',h1,Zjd hf h2⟩
 ·have hn:∀ x,r≠.pan x:=fun x e=>hp ⟨x,e⟩
  rw[Zf7 hn]at h⊢
  exact ZL7 hf h
theorem ZvB{I I':Imm}{β β':Bmap}(hI:∀ b o n,I b o=some (.int .u8 n)->I' b o=some (.int .u8 n)):∀ {xs:List AVal} {b off:Nat},xs.all ZmL=true->∀ {k:Nat},LR I β k xs b off->LR I' β' k xs b off
 | [],_,_,_,_,_=>by simp only[LR]
 |x::xs,b,off,hx,k,h=>by
  simp only[XW,Xj]at hx
  have ih:=fun(h:LR I β k xs b (off+k))=>ZvB (β':=β') hI hx.2 h
  have hx1:=hx.1
  unfold ZmL at hx1
  split at hx1
  ·simp only[LR,VR]at h⊢
   obtain⟨⟨h0,u,h1,h2⟩,h3⟩:=h
   subst h2
   exact⟨⟨h0,_,hI _ _ _ h1,rfl⟩,ih h3⟩
  ·cases hx1
theorem Zt0{I I':Imm}{β β':Bmap}(hI:∀ b o n,I b o=some (.int .u8 n)->I' b o=some (.int .u8 n)){x:AVal}{v:Value}(hf:ZgA x=true)(h:VR I β x v):VR I' β' x v:=by
 unfold ZgA at hf
 split at hf
 ·simp only[VR]at h⊢
  obtain⟨A,cap,h1,h2,h3,h4,h5,h6⟩:=h
  refine⟨A,cap,h1,h2,h3,h4,?_,h6⟩
  rcases h5 with h5 |⟨b,off,k,e,hk,h5⟩
  ·exact Xp h5
  ·exact Xt ⟨b,off,k,e,hk,ZvB hI hf h5⟩
 ·exact Zjd hf h
theorem ZwQ{I I':Imm}{β β':Bmap}(hI:∀ b o n,I b o=some (.int .u8 n)->I' b o=some (.int .u8 n)){x:AVal}{v:Value}(hf:ZgH x=true)(h:VR I β x v):VR I' β' x v:=by
 unfold ZgH at hf
 split at hf
 ·rename_i cs
  simp only[VR]at h⊢
  obtain⟨us,rfl,h⟩:=h
  exact⟨us,rfl,ZdK (Zae h) (fun i x v hx hv=>by
   obtain⟨v',h1,h2⟩:=Zcc h hx
   rw[hv]at h1;injection h1 with h1;subst h1
   exact Zt0 hI (XF.1 hf x (Xx hx)) h2)⟩
 ·exact Zt0 hI hf h
theorem ZIO{I I':Imm}{β β':Bmap}(hI:∀ b o n,I b o=some (.int .u8 n)->I' b o=some (.int .u8 n)){x:AVal}{v:Value}(hf:Zgp x=true)(h:VR I β x v):VR I' β' x v:=by
 unfold Zgp at hf
 split at hf
 ·rename_i cs
  simp only[VR]at h⊢
  obtain⟨us,rfl,h⟩:=h
  exact⟨us,rfl,ZdK (Zae h) (fun i x v hx hv=>by
   obtain⟨v',h1,h2⟩:=Zcc h hx
   rw[hv]at h1;injection h1 with h1;subst h1
   exact ZwQ hI (XF.1 hf x (Xx hx)) h2)⟩
 ·exact ZwQ hI hf h
theorem Rel.after_bytes{I1 Ic:Imm}{βc:Bmap}{σc:Za}{K':Nat->Prop}{r:AVal}{u:Value}(R:Rel base w0 I0 I β σ w)(hb:KLt base w0)(hK:∀ b,b<w.heap.size->K' b)(Rc:Rel K' w I1 Ic βc σc w')(h1:I.le I1)(h2:I1.le Ic)
  (hn:∀ b o n,I1 b o=some (.int .u8 n)->I b o=some (.int .u8 n)) (hf:Zgp r=true) (hv:VR Ic βc (ZaC r) u):Post base w0 I0 I β (ZaC r) σ u w':=by
 have hbw:=R.base_le hb
 let J:Imm:=fun b o=>if b<w.heap.size then I b o else Ic b o
 have hle:I.le J:=by
  intro b o u hu
  have hlt:=ZdN (R.imm b o u hu)
  simp only[J,hlt,if_true];exact hu
 have hJ:∀ b o n,Ic b o=some (.int .u8 n)->J b o=some (.int .u8 n):=by
  intro b o n hu
  by_cases hlt:b<w.heap.size
  ·simp only[J,hlt,if_true]
   rw[Rc.old b o (hK b hlt)]at hu
   exact hn b o n hu
  ·simp only[J,hlt,if_false];exact hu
 have hval:ZaC r=r:=Zf7 (fun x e=>by subst e;simp[Zgp,ZgH,ZgA,Z5]at hf)
 rw[hval]at hv ⊢
 refine Post.mk hle (Bmap.le.refl β) (R.stay hle (Rc.below.mono fun b h=>hK b (hbw b h)) ?_ ?_ ?_) (ZIO hJ hf hv)
 ·intro b o hb'
  simp only[J,hbw b hb',if_true]
 ·intro b o u hu
  by_cases hlt:b<w.heap.size
  ·simp only[J,hlt,if_true]at hu
   rw[<-R.imm b o u hu]
   simp only[World.cell?,Rc.below.block b (hK b hlt)]
  ·simp only[J,hlt,if_false]at hu
   exact Rc.imm b o u hu
 ·intro t x b hx hb'
  have hlt:=(R.blk t x hx).owns_lt hb'
  refine⟨Rc.below.block b (hK b hlt),fun o=>?_⟩
  simp only[J,hlt,if_true]
  exact(R.own t x b hx hb').2 o
theorem ZwU{xs:List AVal}(h:xs.all Zas=true):(xs.flatMap AVal.cells).all Z5=true:=by
 rw[XF]at h⊢
 intro x hx
 obtain⟨y,hy,hxy⟩:=Wi.1 hx
 have:=h y hy
 cases y
 case agg cs=>exact XF.1 this x hxy
 all_goals (simp only[AVal.cells,XM]at hxy;subst hxy;exact this)
theorem Rel.clone{Ic I1:Imm}{βc:Bmap}{K':Nat->Prop}{sq k lo n:Nat}{xs:List AVal}{u:Value}(R:Rel base w0 I0 I β σ w)(hb:KLt base w0)(hK:∀ b,b<w.heap.size->K' b)(Rc:Rel K' w I1 Ic βc [.row 0 k xs] w')(hs:σ[sq]?=some .free)(hf:xs.all Zas=true)
  (hv:VR Ic βc (.sl 0 0 lo n) u):Post base w0 I0 I β (.sl sq 0 lo n) (σ.set sq (.row 0 k xs)) u w':=by
 have R':=R.after_flat hb hK Rc
 obtain⟨bi,h1,h2,h3,h4,h5,h6,h7,h8⟩:=Rc.blk 0 _ rfl
 have hle:β.le (β.put sq 0 bi):=Bmap.put_le (R.free sq 0 hs)
 have hbw:=R.base_le hb
 have hsl:sq<σ.length:=(Xh.1 hs).1
 have hnew:∀ b,bi.b=some b->¬b<w.heap.size:=by
  intro b e hlt
  exact(Rc.own 0 (.row 0 k xs) b rfl (by simp[Zo,h1,e])).1 (hK b hlt)
 have hown:∀ b,Zo w' (β.put sq 0 bi) sq (.row 0 k xs) b->bi.b=some b:=by
  intro b e
  simpa[Zo,Bmap.put_same]using e
 refine Post.mk (Imm.le.refl I) hle (R'.upd (Imm.le.refl I) hle (KB.refl base w') (fun _ _ _=>rfl) R'.imm sq _ rfl hsl (fun t g h=>Bmap.put_ne h) ?_ ?_ ?_ ?_ (by simp)) ?_
 ·intro t x b hne h hb'
  replace hb':=((R.blk t x h).owns_at (Bmap.le.refl β) (fun b hb'=>Rc.below.block b (hK b ((R.blk t x h).owns_lt hb'))) b).1 hb'
  refine⟨rfl,(R.own t x b h hb').2,fun e=>?_⟩
  exact hnew b (hown b e) ((R.blk t x h).owns_lt hb')
 ·refine⟨bi,Bmap.put_same β sq 0 _,h2,h3,h4,h5,h6,h7,?_⟩
  rcases h8 with h8 |⟨b,us,ty,g1,g2,g3,g4⟩
  ·exact Xp h8
  ·exact Xt ⟨b,us,ty,g1,g2,g3,ZrH (ZwU hf) g4⟩
 ·intro b e
  have hnb:=hnew b (hown b e)
  refine⟨fun hB=>hnb (hbw b hB),fun o=>?_⟩
  cases hI:I b o with
  |none=>rfl
  |some v=>exact absurd (ZdN (R.imm b o v hI)) hnb
 ·intro g hg
  simp only[genB]at hg
  rw[Bmap.put_gen (by omega)]
  exact R.free sq g hs
 ·simp only[VR]at hv ⊢
  obtain⟨bi',e,hv⟩:=hv
  rw[h1]at e
  injection e with e;subst e
  exact⟨bi,Bmap.put_same β sq 0 _,hv⟩
section
variable {I I':Imm}{β β':Bmap}
theorem Zqf{x:AVal}{u:Value}(hf:ZfF x=true)(h:VR I β x u):VR I' β' x u:=by
 unfold ZfF at hf
 split at hf
 ·simp only[VR]at h⊢
  obtain⟨A,cap,g1,g2,g3,g4,_,g6⟩:=h
  exact⟨A,cap,g1,g2,g3,g4,Xp trivial,g6⟩
 ·exact Zjd hf h
theorem Zum:∀ {fl:List AVal} {us:List Value},fl.all ZfF=true->VRs I β fl us->VRs I' β' fl us
 | [],_,_,h=>h
 |x::fl,us,hf,h=>by
  simp only[XW,Xj]at hf
  simp only[VRs]at h⊢
  obtain⟨v,vs,e,h1,h2⟩:=h
  exact⟨v,vs,e,Zqf hf.1 h1,Zum hf.2 h2⟩
theorem ZBU{x:AVal}{u:Value}(hf:ZjZ x=true)(h:VR I β x u):VR I' β' x u:=by
 unfold ZjZ at hf
 split at hf
 ·simp only[VR]at h⊢
  obtain⟨us,e,h⟩:=h
  exact⟨us,e,Zum hf h⟩
 ·exact Zqf hf h
theorem Zyr:∀ {fl:List AVal} {us:List Value},fl.all ZjZ=true->VRs I β fl us->VRs I' β' fl us
 | [],_,_,h=>h
 |x::fl,us,hf,h=>by
  simp only[XW,Xj]at hf
  simp only[VRs]at h⊢
  obtain⟨v,vs,e,h1,h2⟩:=h
  exact⟨v,vs,e,ZBU hf.1 h1,Zyr hf.2 h2⟩
theorem ZM0{r:AVal}{u:Value}(hf:ZiX r=true)(h:VR I β (ZaC r) u):VR I' β' (ZaC r) u:=by
 unfold ZiX at hf
 split at hf
 case h_2=>cases hf
 rename_i vs
 have e:ZaC (.tup vs)=.tup vs:=Zf7 (fun y e=>by cases e)
 rw[e]at h⊢
 simp only[VR]at h⊢
 obtain⟨us,hu,h⟩:=h
 exact⟨us,hu,Zyr hf h⟩
section
variable {sq:Nat}{bi:BI}(h0:β 0 0=some bi)(h1:β' sq 0=some bi)
include h0 h1
theorem Zvh{x:AVal}{u:Value}(hf:Zh9 x=true)(h:VR I β x u):VR I' β' (Zed sq x) u:=by
 unfold Zh9 at hf
 split at hf
 ·have e:∀ lo n,Zed sq (.sl 0 0 lo n)=.sl sq 0 lo n:=fun lo n=>by simp[Zed,renV]
  rw[e]
  simp only[VR]at h⊢
  obtain⟨bi',e2,h⟩:=h
  rw[h0]at e2;injection e2 with e2;subst e2
  exact⟨bi,h1,h⟩
 ·have e:Zed sq x=x:=by
   unfold ZfF at hf
   split at hf
   ·rfl
   ·cases x<;>simp[Z5]at hf<;>rfl
  rw[e]
  exact Zqf hf h
theorem Zxg:∀ {fl:List AVal} {us:List Value},fl.all Zh9=true->VRs I β fl us->VRs I' β' (renL (fun t g=>if t=0/\g=0 then some (sq,0)else none) fl) us
 | [],_,_,h=>h
 |x::fl,us,hf,h=>by
  simp only[XW,Xj]at hf
  simp only[renL,VRs]at h⊢
  obtain⟨v,vs,e,g1,g2⟩:=h
  exact⟨v,vs,e,Zvh h0 h1 hf.1 g1,Zxg hf.2 g2⟩
theorem ZN0{x:AVal}{u:Value}(hf:ZjN x=true)(h:VR I β x u):VR I' β' (Zed sq x) u:=by
 unfold ZjN at hf
 split at hf
 ·unfold Zed
  simp only[renV,VR]at h⊢
  obtain⟨us,e,h⟩:=h
  exact⟨us,e,Zxg h0 h1 hf h⟩
 ·exact Zvh h0 h1 hf h
theorem ZzY:∀ {fl:List AVal} {us:List Value},fl.all ZjN=true->VRs I β fl us->VRs I' β' (renL (fun t g=>if t=0/\g=0 then some (sq,0)else none) fl) us
 | [],_,_,h=>h
 |x::fl,us,hf,h=>by
  simp only[XW,Xj]at hf
  simp only[renL,VRs]at h⊢
  obtain⟨v,vs,e,g1,g2⟩:=h
  exact⟨v,vs,e,ZN0 h0 h1 hf.1 g1,ZzY hf.2 g2⟩
theorem ZJF{r:AVal}{u:Value}(hf:Zgx r=true)(h:VR I β r u):VR I' β' (Zed sq r) u:=by
 unfold Zgx at hf
 split at hf
 case h_2=>cases hf
 unfold Zed
 simp only[renV,VR]at h⊢
 obtain⟨us,e,h⟩:=h
 exact⟨us,e,ZzY h0 h1 hf h⟩
end
end
theorem Rel.cloneT{Ic I1:Imm}{βc:Bmap}{K':Nat->Prop}{sq k:Nat}{xs:List AVal}{r:AVal}{u:Value}(R:Rel base w0 I0 I β σ w)(hb:KLt base w0)(hK:∀ b,b<w.heap.size->K' b)(Rc:Rel K' w I1 Ic βc [.row 0 k xs] w')(hs:σ[sq]?=some .free)(hf:xs.all Zas=true)(hr:Zgx r=true)
  (hv:VR Ic βc r u):Post base w0 I0 I β (Zed sq r) (σ.set sq (.row 0 k xs)) u w':=by
 have R':=R.after_flat hb hK Rc
 obtain⟨bi,h1,h2,h3,h4,h5,h6,h7,h8⟩:=Rc.blk 0 _ rfl
 have hle:β.le (β.put sq 0 bi):=Bmap.put_le (R.free sq 0 hs)
 have hbw:=R.base_le hb
 have hsl:sq<σ.length:=(Xh.1 hs).1
 have hnew:∀ b,bi.b=some b->¬b<w.heap.size:=by
  intro b e hlt
  exact(Rc.own 0 (.row 0 k xs) b rfl (by simp[Zo,h1,e])).1 (hK b hlt)
 have hown:∀ b,Zo w' (β.put sq 0 bi) sq (.row 0 k xs) b->bi.b=some b:=by
  intro b e
  simpa[Zo,Bmap.put_same]using e
 refine Post.mk (Imm.le.refl I) hle (R'.upd (Imm.le.refl I) hle (KB.refl base w') (fun _ _ _=>rfl) R'.imm sq _ rfl hsl (fun t g h=>Bmap.put_ne h) ?_ ?_ ?_ ?_ (by simp)) ?_
 ·intro t x b hne h hb'
  replace hb':=((R.blk t x h).owns_at (Bmap.le.refl β) (fun b hb'=>Rc.below.block b (hK b ((R.blk t x h).owns_lt hb'))) b).1 hb'
  refine⟨rfl,(R.own t x b h hb').2,fun e=>?_⟩
  exact hnew b (hown b e) ((R.blk t x h).owns_lt hb')
 ·refine⟨bi,Bmap.put_same β sq 0 _,h2,h3,h4,h5,h6,h7,?_⟩
  rcases h8 with h8 |⟨b,us,ty,g1,g2,g3,g4⟩
  ·exact Xp h8
  ·exact Xt ⟨b,us,ty,g1,g2,g3,ZrH (ZwU hf) g4⟩
 ·intro b e
  have hnb:=hnew b (hown b e)
  refine⟨fun hB=>hnb (hbw b hB),fun o=>?_⟩
  cases hI:I b o with
  |none=>rfl
  |some v=>exact absurd (ZdN (R.imm b o v hI)) hnb
 ·intro g hg
  simp only[genB]at hg
  rw[Bmap.put_gen (by omega)]
  exact R.free sq g hs
 ·exact ZJF h1 (Bmap.put_same β sq 0 _) hr hv
theorem Zo3{O:ZJ}(hO:Zar P O){bf:Nat->Bool}(R:Rel base w0 I0 I β σ w)(hb:KLt base w0){sq f own:Nat}{view:Bool}{args:List AVal}{vs:Array Value}(hargs:VRs I β args vs.toList){r:AVal}{c:Cls}(hsite:own=1->σ[sq]?=some .free)(h:Zl O bf σ sq f own view args=some (r,σ',c)) :
  (∃ fn,P.funcs[f]?=some fn/\fn.body.isSome=true/\(fn.name == "runtime.NumGoroutine")=false)/\Calls P f vs w (fun e w'=>∃ u,Ends r e u/\Post base w0 I0 I β (ZaC r) σ' u w'):=by
 unfold Zl at h
 split at h
 ·cases h
 rename_i xs ts hshow
 obtain⟨I1,hI1,R1,hal,_,hfz,_,_,hnby⟩:=ZhX ts R
 have hxs:VRs I1 β xs vs.toList:=by
  unfold Zb1 at hshow
  split at hshow
  ·simp only[Xa,Xc]at hshow
   obtain⟨rfl,rfl⟩:=hshow
   exact hargs.mono hI1 (Bmap.le.refl β) _ _
  ·exact ZvU R1 (hfz (ZlB hshow)) (by rw[hal.showAs];exact hshow) (hargs.mono hI1 (Bmap.le.refl β) _ _)
 generalize hσf:Zj σ ts=σf at *
 obtain⟨hnd,_⟩:=ZhN (σ:=σf) 1000 (refsL xs) [] List.nodup_nil
 generalize reach σf 1000 (refsL xs) []=ids at *
 unfold Zbl at h
 split at h
 case isFalse=>cases h
 rename_i hok
 have R2:=R1.pick (K':=fun b=>b<w.heap.size/\∀ t∈ids,∀ x,σf[t]?=some x->¬Zo w β t x b) (w1:=w) (I1:=I1) (m:=0) hnd (KB.refl _ w) (fun _ _ _=>rfl) (fun t x b ht hx hb' hk=>hk.2 t ht x hx hb') (fun t x b ht hx hs=>⟨R1.base_le hb b (R1.ro t x b hx hs),fun t' _ x' hx' ho=>(R1.own t' x' b hx' ho).1 (R1.ro t x b hx hs)⟩)
 generalize hq:ZO view ids.length (O f (renL (rhoOf σf 0 ids) xs) (heapOf σf 0 ids (rhoOf σf 0 ids) ids 0))=q at h
 cases q with
 |none=>simp only[Z8]at h;cases h
 |some q =>
  obtain⟨r1,h1⟩:=q
  obtain⟨r0,h0,hcall⟩:∃ r0 h0,O f (renL (rhoOf σf 0 ids) xs) (heapOf σf 0 ids (rhoOf σf 0 ids) ids 0)=some (r0,h0):=by
   cases ho:O f (renL (rhoOf σf 0 ids) xs) (heapOf σf 0 ids (rhoOf σf 0 ids) ids 0)with
   |none=>rw[ho]at hq;cases view<;>simp[ZO,ZaI]at hq
   |some q=>exact⟨q.1,q.2,rfl⟩
  rw[hcall]at hq
  obtain⟨hfn,hrun⟩:=hO f _ _ r0 h0 hcall
  refine⟨hfn,(hrun _ w I1 I1 _ w vs (fun b hb=>hb.1) R2 (Zfb Zqs _ _ hxs)).mono ?_⟩
  rintro e w' ⟨u,he,hp⟩
  rw[ZkL]at hp
  have hp1:ZcY ids.length (fun b=>b<w.heap.size/\∀ t∈ids,∀ x,σf[t]?=some x->¬Zo w β t x b) w I1 I1 (ZbD σf 0 ids β) r1 h1 u w'/\Ends r1 e u:=by
   cases view with
   |false =>
    simp only[ZO,Xl,if_false,Xa,Xc]at hq
    obtain⟨rfl,rfl⟩:=hq
    exact⟨hp,he⟩
   |true =>
    simp only[ZO,if_true]at hq
    obtain⟨q1,q2⟩:=ZFB hp hq
    exact⟨q1,q2 e he⟩
  obtain⟨⟨I2,β2,hI2,hkept,Rc,hv⟩,he1⟩:=hp1
  simp only[Z8]at h
  split at h
  ·rename_i hc
   simp only[Xj,W7]at hc
   obtain⟨rfl,rfl⟩:=hc
   split at h
   ·rename_i hflat
    simp only[Xa,Xc]at h
    obtain⟨rfl,rfl,rfl⟩:=h
    exact⟨u,he1,Post.here (R.after_flat hb (fun b hlt=>⟨hlt,by simp⟩) Rc) (ZQO hflat hv)⟩
   split at h
   ·rename_i hap
    unfold Zck at hap
    simp only[Xj,Bool.or_eq_true]at hap
    simp only[Xa,Xc]at h
    obtain⟨rfl,rfl,rfl⟩:=h
    rcases hap.2 with hap2 |hap2
    ·exact⟨u,he1,Post.here (R.after_flat hb (fun b hlt=>⟨hlt,by simp⟩) Rc) (ZM0 hap2 hv)⟩
    ·exact⟨u,he1,R.after_bytes hb (fun b hlt=>⟨hlt,by simp⟩) Rc hI1 hI2 (hnby hap2.2) hap2.1 hv⟩
   ·simp only[Xa,Xc]at h
    obtain⟨rfl,rfl,rfl⟩:=h
    obtain⟨β3,g1,g2,g3⟩:=R1.back (sq:=sq) (n:=0) hb hnd hok Rc hI2 hkept (by simp) (by simp) rfl rfl
    have hρ:ZaR σf [] sq=ZaR [] [] sq:=rfl
    refine⟨u,he1.ren,Post.mk (hI1.trans hI2) g1 g2 ?_⟩
    rw[hρ]at g3
    have:=Zg0 g3 _ _ hv
    rcases ZpV (ρ:=ZaR [] [] sq) r1 with e |⟨x,rfl⟩
    ·rw[e];exact this
    ·exact this
  ·split at h
   ·rename_i lo n k xs' hcl
    split at hcl
    case isFalse=>cases hcl
    rename_i hid
    simp only[W7]at hid
    subst hid
    unfold Zdc at hcl
    split at hcl
    case h_2=>cases hcl
    split at hcl
    case isFalse=>cases hcl
    rename_i hcc
    simp only[Xj,decide_eq_true_eq]at hcc
    simp only[Xa,Xc]at hcl h
    obtain⟨rfl,rfl,rfl,rfl⟩:=hcl
    obtain⟨rfl,rfl,rfl⟩:=h
    exact⟨u,he1,R.clone hb (fun b hlt=>⟨hlt,by simp⟩) Rc (hsite hcc.1) hcc.2 hv⟩
   split at h
   ·rename_i k xs' hcl
    split at hcl
    case isFalse=>cases hcl
    rename_i hid
    simp only[Xj,W7]at hid
    obtain⟨rfl,_⟩:=hid
    unfold cloneT at hcl
    split at hcl
    case h_2=>cases hcl
    split at hcl
    case isFalse=>cases hcl
    rename_i hcc
    simp only[Xj,decide_eq_true_eq]at hcc
    simp only[Xa,Xc]at hcl h
    obtain⟨rfl,rfl⟩:=hcl
    obtain⟨rfl,rfl,rfl⟩:=h
    obtain⟨vs1,rfl⟩:=Zv6 hcc.2
    have hv2:VR I2 β2 (.tup vs1) u:=hv
    exact⟨u,he1.ren,R.cloneT hb (fun b hlt=>⟨hlt,by simp⟩) Rc (hsite hcc.1.1) hcc.1.2 hcc.2 hv2⟩
   split at h
   case isFalse=>cases h
   rename_i hc
   simp only[Xj,decide_eq_true_eq]at hc
   obtain⟨⟨⟨c1,c2⟩,c3⟩,c4⟩:=hc
   simp only[Xa,Xc]at h
   obtain⟨rfl,rfl,rfl⟩:=h
   obtain⟨β3,g1,g2,g3⟩:=R1.back hb hnd hok Rc hI2 hkept c1 c2 c3 c4
   refine⟨u,he1.ren,Post.mk (hI1.trans hI2) g1 g2 ?_⟩
   have:=Zg0 g3 _ _ hv
   rcases ZpV (ρ:=ZaR σf ids sq) r1 with e |⟨x,rfl⟩
   ·rw[e];exact this
   ·exact this
end
end
section
open Go.RowKit
section
variable {P:Program}{w:World}{I:Imm}{β:Bmap}
theorem Zx4{t:TypeId}(hb:ZnL P t=true){xs:Array Value}{o:Nat}{v:Value}(h:xs[o]?=some v):(part t xs o).run P w=.ok v w:=by
 unfold ZnL at hb
 have key:∀ d,P.underlying t=some d->d.isRow=false->(part t xs o).run P w=.ok v w:=by
  intro d hu hd
  have hagg:(isAgg t).run P w=.ok false w:=by
   unfold isAgg
   rw[Sem.run_bind,run_underlying hu w]
   cases d<;>simp_all[TypeDesc.isRow]
  simp[part,hagg,h]
 split at hb
 ·rename_i hu;exact key _ hu rfl
 ·rename_i hu;exact key _ hu rfl
 ·rename_i hu;exact key _ hu rfl
 ·cases hb
theorem ZLy(w:World){t:TypeId}(d:Nat){x y:AVal}{u v:Value}{b:Bool}(hx:VR I β x u)(hy:VR I β y v)(h:ZdJ x y=some b)(hk:ZfL P t x=true):(Op.equalIn (d+1) t u v).run P w=.ok b w:=by
 unfold ZdJ at h
 split at h
 ·rename_i k a k' b'
  split at h
  ·rename_i e;subst e
   injection h with h;subst h
   simp only[VR]at hx hy
   subst hx hy
   cases hd:P.underlying t with
   |none=>simp[ZfL,hd]at hk
   |some dd =>
    cases dd<;>simp[ZfL,hd]at hk
    exact run_equalIn_int w d t _ _ a b' hd
  ·cases h
 ·rename_i a b'
  injection h with h;subst h
  simp only[VR]at hx hy
  subst hx hy
  cases hd:P.underlying t with
  |none=>simp[ZfL,hd]at hk
  |some dd =>
   cases dd<;>simp[ZfL,hd]at hk
   exact run_equalIn_bool' w d t a b' hd
 ·rename_i a b'
  injection h with h;subst h
  simp only[VR]at hx hy
  obtain⟨rfl,_⟩:=hx
  obtain⟨rfl,_⟩:=hy
  cases hd:P.underlying t with
  |none=>simp[ZfL,hd]at hk
  |some dd =>
   cases dd<;>simp[ZfL,hd]at hk
   rw[run_equalIn_string w d t _ _ hd,ZkM,ZkM]
 ·cases h
theorem ZuD:∀ {fs:List Field} {xs:List AVal},Zhs (fs.map fun f=>(Zga P f.type).getD 3) xs=true->ZgE P fs xs=true
 | [],[],_=>rfl
 | [],x::xs,h=>by simp[Zhs]at h
 |f::fs,[],h=>by simp[Zhs]at h
 |f::fs,x::xs,h=>by
  simp only[Xn,Zhs,Xj,beq_iff_eq]at h
  simp only[ZgE,Xj]
  refine⟨?_,ZuD h.2⟩
  have h1:=h.1
  cases hd:P.underlying f.type with
  |none=>simp only[Zga,hd,Xaq]at h1;cases x<;>simp[Zak]at h1
  |some dd=>cases dd<;>simp only[Zga,hd,Xaq,Option.getD_some]at h1<;>cases x<;>first |(simp[ZfL,hd];done) |(simp[Zak]at h1;done)
theorem Zwr(w:World)(d:Nat){us vs:Array Value}:∀ {fs:List Field} {xs ys:List AVal} {o:Nat} {b:Bool},Zku P o fs=true->ZgE P fs xs=true->VRs I β xs (us.toList.drop o)->VRs I β ys (vs.toList.drop o)->Zgi xs ys=some b->(Op.eqFields (d+1) us vs fs).run P w=.ok b w
 | [],xs,ys,o,b,hf,hk,hx,hy,h=>by
  cases xs with
  |nil =>
   cases ys with
   |nil=>simp only[Zgi,Xa]at h;subst h;simp[Op.eqFields]
   |cons=>simp[Zgi]at h
  |cons=>simp[ZgE]at hk
 |f::fs,xs,ys,o,b,hf,hk,hx,hy,h=>by
  cases xs with
  |nil=>simp[ZgE]at hk
  |cons x xs =>
   cases ys with
   |nil=>simp[Zgi]at h
   |cons y ys =>
    simp only[Zku,Xj,beq_iff_eq,bne_iff_ne,ne_eq]at hf
    obtain⟨⟨⟨h1,h2⟩,h3⟩,h4⟩:=hf
    simp only[ZgE,Xj]at hk
    simp only[VRs]at hx hy
    obtain⟨u,us',eu,hx1,hx2⟩:=hx
    obtain⟨v,vs',ev,hy1,hy2⟩:=hy
    have gu:us[o]?=some u:=by
     have:=congrArg (fun l:List Value=>l[0]?) eu
     simpa using this
    have gv:vs[o]?=some v:=by
     have:=congrArg (fun l:List Value=>l[0]?) ev
     simpa using this
    have eu':us.toList.drop (o+1)=us':=by rw[<-XaS,eu];rfl
    have ev':vs.toList.drop (o+1)=vs':=by rw[<-XaS,ev];rfl
    simp only[Zgi]at h
    split at h
    ·rename_i b1 hb1
     split at h
     ·rename_i b2 hb2
      injection h with h;subst h
      have r1:=ZLy w d hx1 hy1 hb1 hk.1
      have r2:=Zwr w d (us:=us) (vs:=vs) h4 hk.2 (by rw[eu'];exact hx2) (by rw[ev'];exact hy2) hb2
      rw[<-h1]at gu gv
      simp only[Op.eqFields,h2,ne_eq,not_false_eq_true,if_true,Sem.run_bind,Zx4 h3 gu,Zx4 h3 gv,r1,Result.andThen_ok]
      cases b1
      ·simp
      ·simpa using r2
     ·cases h
    ·cases h
theorem ZCK{t:TypeId}{fs:Array Field}(hu:P.underlying t=some (.struct fs))(hf:ZqP P t fs=true){x y:List AVal}{us vs:Array Value}(hx:VRs I β x us.toList)(hy:VRs I β y vs.toList)(hk:ZgE P fs.toList x=true){b:Bool}(h:Zgi x y=some b)(neg:Bool){op:BinOp}(hop:op=(if neg then .neq else .eql))(ox oy:Operand) :
  (do eqGuard op t ox oy (.agg us) (.agg vs);binOp op t (.agg us) (.agg vs):Sem Value).run P w=.ok (.bool (b != neg)) w:=by
 simp only[ZqP,Xj,Bool.not_eq_true']at hf
 obtain⟨⟨hf1,hf2⟩,hf3⟩:=hf
 have hfo:P.fieldsOf t=fs:=by simp[Program.fieldsOf,hu]
 have h1:(eqGuard op t ox oy (.agg us) (.agg vs)).run P w=.ok () w:=by
  subst hop
  cases neg<;>simp[eqGuard,hf3]
 have h2:(Op.equal t (.agg us) (.agg vs)).run P w=.ok b w:=by
  show(Op.equalIn (9999+1) t (.agg us) (.agg vs)).run P w=_
  rw[run_equalIn_struct w 9999 t us vs (by rw[hfo];exact hu) hf2,hfo]
  exact Zwr w 9998 hf1 hk (by simpa using hx) (by simpa using hy) h
 subst hop
 cases neg
 ·simp only[Xl,if_false]at h1 ⊢
  simp[h1,h2,binOp]
 ·simp only[if_true]at h1 ⊢
  simp[h1,h2,binOp]
end
end
section
open Go.RowKit
section
variable {P:Program}{base:Nat->Prop}{w0 w w':World}{I0 I I':Imm}{β β':Bmap}{σ σ':Za}
def Za5:TypeDesc->Option Nat
 | .int _=>some 0
 | .bool=>some 1
 | .string=>some 2
 |_=>none
theorem ZlI{P:Program}{t:TypeId}{kc:Nat}{z:AVal}(h:Ziv P t=some (kc,z)):∃ kt et d,P.underlying t=some (.map kt et)/\P.underlying kt=some d/\Za5 d=some kc/\Zdk P et=some z:=by
 unfold Ziv at h
 split at h
 case h_2=>cases h
 rename_i kt et ht
 split at h
 case h_2=>cases h
 rename_i kc' z' hk hz
 simp only[Xa,Xc]at h
 obtain⟨rfl,rfl⟩:=h
 unfold Zga at hk
 split at hk
 ·rename_i e;injection hk with hk;subst hk;exact⟨kt,et,_,ht,e,rfl,hz⟩
 ·rename_i e;injection hk with hk;subst hk;exact⟨kt,et,_,ht,e,rfl,hz⟩
 ·rename_i e;injection hk with hk;subst hk;exact⟨kt,et,_,ht,e,rfl,hz⟩
 ·cases hk
theorem ZtS{l l':List UInt8}:((⟨l.toArray⟩:ByteArray)==⟨l'.toArray⟩)=(l==l'):=by
 rw[beq_toListBytes,ZkM,ZkM]
theorem ZmR{d:TypeDesc}{x y:AVal}{vx vy:Value}{b:Bool}(hd:Za5 d=some (Zak x))(h:ZdJ x y=some b)(hx:VR I β x vx)(hy:VR I β y vy):Instr.sameNow d vx vy=some b:=by
 unfold ZdJ at h
 split at h
 ·rename_i k n k' m
  split at h
  case isFalse=>cases h
  rename_i hk
  subst hk
  injection h with h
  subst h
  simp only[VR]at hx hy
  subst hx hy
  cases d<;>simp[Za5,Zak]at hd
  simp[Instr.sameNow]
 ·injection h with h
  subst h
  simp only[VR]at hx hy
  subst hx hy
  cases d<;>simp[Za5,Zak]at hd
  simp[Instr.sameNow]
 ·rename_i l l'
  injection h with h
  subst h
  simp only[VR]at hx hy
  rw[hx.1,hy.1]
  cases d<;>simp[Za5,Zak]at hd
  simp only[Instr.sameNow,ZtS]
 ·cases h
theorem Zrb{x y:AVal}{vx vy:Value}(h:ZdJ x y=some true)(hx:VR I β x vx)(hy:VR I β y vy):Instr.sameBits 10000 vy vx=true/\vx=vy:=by
 unfold ZdJ at h
 split at h
 ·rename_i k n k' m
  split at h
  case isFalse=>cases h
  rename_i hk
  subst hk
  simp only[Xa,beq_iff_eq]at h
  subst h
  simp only[VR]at hx hy
  subst hx hy
  exact⟨by simp[Instr.sameBits],rfl⟩
 ·simp only[Xa,beq_iff_eq]at h
  subst h
  simp only[VR]at hx hy
  subst hx hy
  exact⟨by simp[Instr.sameBits],rfl⟩
 ·simp only[Xa,beq_iff_eq]at h
  subst h
  simp only[VR]at hx hy
  rw[hx.1,hy.1]
  exact⟨by simp only[Instr.sameBits,ZtS,beq_self_eq_true],rfl⟩
 ·cases h
theorem Zeg{d:TypeDesc}{x:AVal}{vx:Value}(hd:Za5 d=some (Zak x))(hx:VR I β x vx):∀ (es:List (AVal×AVal)) (arr:List MapEntry) (i:Nat) (r:Option (Nat×AVal)),VRs I β (es.map (·.1)) (arr.map (·.key))->VRs I β (es.map (·.2)) (arr.map (·.val))->Zc2 x es i=some r ->
  (r=none/\Instr.findNow d vx arr i=some none) \/
  ∃ j y e p,r=some (i+j,y)/\Instr.findNow d vx arr i=some (some (i+j,e.val))/\arr[j]?=some e/\es[j]?=some p/\p.2=y/\VR I β y e.val/\ZdJ x p.1=some true/\VR I β p.1 e.key
 | [],arr,i,r,hk,_,h=>by
  unfold Zc2 at h
  injection h with h
  subst h
  simp only[Xo,VRs,List.map_eq_nil_iff]at hk
  subst hk
  exact Xp ⟨rfl,by simp[Instr.findNow]⟩
 |(k,y)::es,arr,i,r,hk,hv,h=>by
  unfold Zc2 at h
  cases arr with
  |nil =>
   simp only[Xn,Xo,VRs]at hk
   obtain⟨_,_,hk,_⟩:=hk
   cases hk
  |cons e arr =>
  simp only[Xn,VRs]at hk hv
  obtain⟨_,_,ek,k1,k2⟩:=hk
  injection ek with ek1 ek2
  subst ek1 ek2
  obtain⟨_,_,ev,v1,v2⟩:=hv
  injection ev with ev1 ev2
  subst ev1 ev2
  split at h
  ·rename_i ha
   injection h with h
   subst h
   refine Xt ⟨0,y,e,(k,y),rfl,?_,rfl,rfl,rfl,v1,ha,k1⟩
   simp only[Instr.findNow,ZmR hd ha hx k1,Wg]
  ·rename_i ha
   have hn:=ZmR hd ha hx k1
   rcases Zeg hd hx es arr (i+1) r k2 v2 h with⟨h1,h2⟩ |⟨j,y',e',p',h1,h2,h3,h4,h5⟩
   ·exact Xp ⟨h1,by simp only[Instr.findNow,hn];exact h2⟩
   ·refine Xt ⟨j+1,y',e',p',by rw[h1,Wf,Xaw 1 j],?_,by simpa using h3,by simpa using h4,h5⟩
    simp only[Instr.findNow,hn]
    rw[h2,Wf,Xaw 1 j]
  ·cases h
theorem ZbP{kt:TypeId}{d:TypeDesc}{kc:Nat}(hk:P.underlying kt=some d)(hd:Za5 d=some kc)(e:Bool)(v:Value):(Instr.checkKey e 10000 kt v).run P w=.ok () w:=by
 show(Instr.checkKey e (9999+1) kt v).run P w=_
 unfold Instr.checkKey
 rw[Sem.run_bind,run_underlying hk]
 cases d<;>simp[Za5]at hd<;>rfl
theorem ZbV{kt:TypeId}{d:TypeDesc}(hk:P.underlying kt=some d){v:Value}{arr:List MapEntry}{r:Option (Nat×Value)}(h:Instr.findNow d v arr 0=some r):(Instr.findKey kt v arr).run P w=.ok r w:=by
 unfold Instr.findKey
 rw[Sem.run_bind,run_underlying hk]
 simp only[Result.andThen_ok,h,Sem.run_pure]
theorem ZqR{e:TypeId}{z:AVal}(hz:Zdk P e=some z):∃ v,(zeroValue e).run P w=.ok v w/\VR I β z v:=by
 unfold Zdk at hz
 split at hz
 case h_2=>cases hz
 rename_i i hi
 split at hz
 case h_2=>cases hz
 rename_i v hv
 exact⟨v,by simp[zeroValue,typeInfo,hi,hv],(Zft hz).1⟩
theorem Zdr{b:Nat}{arr:Array MapEntry}{clk:Nat}(h:w.heap[b]?=some (.map arr clk)):(getObj b).run P w=.ok (.map arr clk) w:=by simp[getObj,Sem.run,h]
theorem ZhU:VR I β (.tup []) undef:=by simp[VR,VRs,undef]
theorem Zg7{x:AVal}{v:Value}(b:Bool)(h:VR I β x v):VR I β (.tup [x,.bool b]) (.tuple #[v,.bool b]):=by
 simp only[VR]
 exact⟨_,rfl,by simp only[VRs];exact⟨_,_,rfl,h,_,_,rfl,rfl,rfl⟩⟩
theorem Zee(arr:Array MapEntry)(i:Nat)(f:MapEntry->MapEntry):(arr.modify i f).toList=arr.toList.modify i f:=by simp
theorem Zh8{α β:Type}(g:α->β)(f:α->α)(v:β)(hf:∀ x,g (f x)=v):∀ (l:List α) (i:Nat),(l.modify i f).map g=(l.map g).set i v
 | [],i=>by simp
 |x::l,0=>by simp[hf]
 |x::l,i+1=>by simp[Zh8 g f v hf l i]
theorem Zhm{α β:Type}(g:α->β)(f:α->α)(hf:∀ x,g (f x)=g x):∀ (l:List α) (i:Nat),(l.modify i f).map g=l.map g
 | [],i=>by simp
 |x::l,0=>by simp[hf]
 |x::l,i+1=>by simp[Zhm g f hf l i]
theorem Zec{b:Nat}{arr:Array MapEntry}{clk:Nat}{o':Obj}(h:w.heap[b]?=some (.map arr clk)):(setObj b o').run P w=.ok () { w with heap:=w.heap.setIfInBounds b o' }:=by simp[setObj,Sem.run,h]
theorem Zih:∀ {xs:List AVal} {vs:List Value} (i:Nat),VRs I β xs vs->VRs I β (xs.eraseIdx i) (vs.eraseIdx i)
 | [],vs,i,h=>by simp only[VRs]at h;subst h;simp[VRs]
 |x::xs,vs,0,h=>by
  simp only[VRs]at h
  obtain⟨v,vs',rfl,_,h⟩:=h
  exact h
 |x::xs,vs,i+1,h=>by
  simp only[VRs]at h
  obtain⟨v,vs',rfl,h1,h⟩:=h
  simp only[List.eraseIdx_cons_succ,VRs]
  exact⟨v,_,rfl,h1,Zih i h⟩
theorem Zdd{α β:Type}(g:α->β):∀ (l:List α) (i:Nat),(l.eraseIdx i).map g=(l.map g).eraseIdx i
 | [],i=>by simp
 |x::l,0=>by simp
 |x::l,i+1=>by simp[Zdd g l i]
end
end
section
open Go.RowKit
section
variable {P:Program}{base:Nat->Prop}{w0 w w':World}{I0 I I':Imm}{β β':Bmap}{σ σ':Za}
def ZgB(es:List (AVal×AVal))(k x:AVal):Option (Nat×AVal)->List (AVal×AVal)
 |some (j,_)=>es.set j (k,x)
 |none=>es++[(k,x)]
def ZjF(es:List (AVal×AVal)):Option (Nat×AVal)->List (AVal×AVal)
 |some (j,_)=>es.eraseIdx j
 |none=>es
def MapW(I:Imm)(β:Bmap)(es:List (AVal×AVal))(arr:Array MapEntry)(clk:Nat):Prop:=VRs I β (es.map (·.1)) (arr.toList.map (·.key))/\VRs I β (es.map (·.2)) (arr.toList.map (·.val))/\(∀ p∈es,Zcn p.1=true)/\Zel arr clk
theorem Zxn{t kt et:TypeId}(ht:P.underlying t=some (.map kt et)){d:TypeDesc}(hdk:P.underlying kt=some d){kc:Nat}(hd:Za5 d=some kc){z:AVal}(hz:Zdk P et=some z){ok:Bool}{k:AVal}{vk:Value}(hkc:Zak k=kc)(hk:VR I β k vk)
  {b clk:Nat} {arr:Array MapEntry} {es:List (AVal×AVal)} (e2:w.heap[b]?=some (.map arr clk)) (M:MapW I β es arr clk) {r:Option (Nat×AVal)} (hf:Zc2 k es 0=some r) :
  ∃ u,(Instr.lookup t (.map (some b)) vk ok).run P w=.ok u w/\VR I β (match r with |some (_,v)=>ZfB ok v true |none=>ZfB ok z false) u:=by
 obtain⟨vz,hvz,hzr⟩:=ZqR (P:=P) (w:=w) (I:=I) (β:=β) hz
 have hd':Za5 d=some (Zak k):=by rw[hd,hkc]
 obtain⟨e3,e4,_⟩:=M
 have hg:=Zdr (P:=P) e2
 rcases Zeg hd' hk es arr.toList 0 _ e3 e4 hf with⟨rfl,h2⟩ |⟨j',y',e,p,rfl,h2,_,_,_,h5,_⟩
 ·have hr:=ZbV (P:=P) (w:=w) hdk h2
  refine⟨if ok then .tuple #[vz,.bool false]else vz,?_,?_⟩
  ·simp[Instr.lookup,run_underlying ht,ZbP hdk hd,hg,hr,hvz]
  ·cases ok
   ·exact hzr
   ·exact Zg7 false hzr
 ·have hr:=ZbV (P:=P) (w:=w) hdk h2
  refine⟨if ok then .tuple #[e.val,.bool true]else e.val,?_,?_⟩
  ·simp[Instr.lookup,run_underlying ht,ZbP hdk hd,hg,hr]
  ·cases ok
   ·exact h5
   ·exact Zg7 true h5
theorem ZuW{t kt et:TypeId}(ht:P.underlying t=some (.map kt et)){d:TypeDesc}(hdk:P.underlying kt=some d){kc:Nat}(hd:Za5 d=some kc){k x:AVal}{vk vx:Value}(hkc:Zak k=kc)(hkA:Zcn k=true)(hk:VR I β k vk)(hx:VR I β x vx)
  {b clk:Nat} {arr:Array MapEntry} {es:List (AVal×AVal)} (e2:w.heap[b]?=some (.map arr clk)) (M:MapW I β es arr clk) {r:Option (Nat×AVal)} (hf:Zc2 k es 0=some r) :
  ∃ arr' clk',(Instr.mapUpdate t (.map (some b)) vk vx).run P w=.ok () { w with heap:=w.heap.setIfInBounds b (.map arr' clk') }/\MapW I β (ZgB es k x r) arr' clk':=by
 have hd':Za5 d=some (Zak k):=by rw[hd,hkc]
 obtain⟨e3,e4,e5,e6,e7⟩:=M
 have hg:=Zdr (P:=P) e2
 rcases Zeg hd' hk es arr.toList 0 _ e3 e4 hf with⟨rfl,h2⟩ |⟨j,y',e,p,rfl,h2,h3,h4,_,h5,h6,h7⟩
 ·have hr:=ZbV (P:=P) (w:=w) hdk h2
  refine⟨arr.push { key:=vk,val:=vx,born:=clk },clk+1,?_,?_,?_,?_,?_,?_⟩
  ·simp only[Instr.mapUpdate,run_underlying ht,ZbP hdk hd,hg,hr,Sem.run_bind,Result.andThen_ok,Zec e2]
  ·simp only[ZgB]
   rw[Wn,XH,XH]
   exact Zcj e3 (by simp only[Xn,Xo,VRs];exact⟨_,_,rfl,hk,rfl⟩)
  ·simp only[ZgB]
   rw[Wn,XH,XH]
   exact Zcj e4 (by simp only[Xn,Xo,VRs];exact⟨_,_,rfl,hx,rfl⟩)
  ·intro q hq
   rcases Xs.1 hq with hq |hq
   ·exact e5 q hq
   ·rw[XM]at hq;subst hq;exact hkA
  ·intro e he
   rw[Wn]at he
   rcases Xs.1 he with he |he
   ·have:=e6 e he;omega
   ·rw[XM]at he;subst he;exact XaF clk
  ·rw[Wn,XH,Xak]
   refine⟨e7,by simp,?_⟩
   intro a ha b hb'
   simp only[Xn,Xo,XM]at hb'
   subst hb'
   obtain⟨e',he',rfl⟩:=XG.1 ha
   have:=e6 e' he'
   omega
 ·simp only[Xv]at h2
  have hr:=ZbV (P:=P) (w:=w) hdk h2
  obtain⟨sb,_⟩:=Zrb h6 hk h7
  have h3':arr[j]?=some e:=by rw[<-XaW];exact h3
  have hst:(Instr.keyThatStays (((arr[j]?).map (·.key)).getD vk) vk).run P w=.ok vk w:=by
   rw[h3']
   simp[Instr.keyThatStays,sb]
  refine⟨arr.modify j fun e=>{ e with key:=vk,val:=vx },clk,?_,?_,?_,?_,?_,?_⟩
  ·simp only[Instr.mapUpdate,run_underlying ht,ZbP hdk hd,hg,hr,hst,Sem.run_bind,Result.andThen_ok,Zec e2]
  ·simp only[ZgB,Xv]
   rw[Zee,Zh8 (fun x:MapEntry=>x.key) _ vk (fun _=>rfl),XaJ]
   exact ZjL e3 hk j
  ·simp only[ZgB,Xv]
   rw[Zee,Zh8 (fun x:MapEntry=>x.val) _ vx (fun _=>rfl),XaJ]
   exact ZjL e4 hx j
  ·intro q hq
   rcases XZ hq with hq |rfl
   ·exact e5 q hq
   ·exact hkA
  ·intro e he
   rw[Zee]at he
   have hm:e.born∈(arr.toList.modify j fun e=>{ e with key:=vk,val:=vx }).map (·.born):=XG.2 ⟨e,he,rfl⟩
   rw[Zhm (fun x:MapEntry=>x.born) (fun e:MapEntry=>{ e with key:=vk,val:=vx }) (fun _=>rfl)]at hm
   obtain⟨e',he',hb'⟩:=XG.1 hm
   rw[<-hb'];exact e6 e' he'
  ·rw[Zee,Zhm (fun x:MapEntry=>x.born) (fun e:MapEntry=>{ e with key:=vk,val:=vx }) (fun _=>rfl)]
   exact e7
theorem ZzA{t kt et:TypeId}(ht:P.underlying t=some (.map kt et)){d:TypeDesc}(hdk:P.underlying kt=some d){kc:Nat}(hd:Za5 d=some kc){k:AVal}{vk:Value}(hkc:Zak k=kc)(hk:VR I β k vk)(ts:List TypeId)(ty:TypeId)
  {b clk:Nat} {arr:Array MapEntry} {es:List (AVal×AVal)} (e2:w.heap[b]?=some (.map arr clk)) (M:MapW I β es arr clk) {r:Option (Nat×AVal)} (hf:Zc2 k es 0=some r) :
  ∃ arr' clk',(Builtin.delete_ (t::ts).toArray ty #[.map (some b),vk]).run P w=.ok (.tuple #[]) { w with heap:=w.heap.setIfInBounds b (.map arr' clk') }/\MapW I β (ZjF es r) arr' clk':=by
 have hd':Za5 d=some (Zak k):=by rw[hd,hkc]
 obtain⟨e3,e4,e5,e6,e7⟩:=M
 have hg:=Zdr (P:=P) e2
 rcases Zeg hd' hk es arr.toList 0 _ e3 e4 hf with⟨rfl,h2⟩ |⟨j,y',e,p,rfl,h2,h3,h4,_,h5,h6,h7⟩
 ·have hr:=ZbV (P:=P) (w:=w) hdk h2
  refine⟨arr,clk,?_,e3,e4,e5,e6,e7⟩
  simp[Builtin.delete_,run_underlying ht,ZbP hdk hd,hg,hr,Zec e2]
 ·simp only[Xv]at h2
  have hr:=ZbV (P:=P) (w:=w) hdk h2
  have el:(arr.eraseIdxIfInBounds j).toList=arr.toList.eraseIdx j:=by simp
  refine⟨arr.eraseIdxIfInBounds j,clk,?_,?_,?_,?_,?_,?_⟩
  ·simp[Builtin.delete_,run_underlying ht,ZbP hdk hd,hg,hr,Zec e2]
  ·simp only[ZjF,Xv]
   rw[el,Zdd,Zdd];exact Zih j e3
  ·simp only[ZjF,Xv]
   rw[el,Zdd,Zdd];exact Zih j e4
  ·exact fun q hq=>e5 q (Wu hq)
  ·intro e he;rw[el]at he;exact e6 e (Wu he)
  ·rw[el,Zdd];exact e7.sublist (XaX _ _)
theorem Znx{α:Type}(f:α->AVal){k:AVal}{v:α}:∀ {es l:List (AVal×α)} (i:Nat),ZiC k v es=some l->∃ r,Zc2 k (es.map fun p=>(p.1,f p.2)) i=some r/\((r=none/\l=es++[(k,v)])\/∃ j y,r=some (i+j,y)/\l=es.set j (k,v))
 | [],l,i,h=>by
  simp only[ZiC,Xa]at h
  subst h
  exact⟨none,rfl,Xp ⟨rfl,rfl⟩⟩
 |(x,u)::es,l,i,h=>by
  simp only[ZiC]at h
  simp only[Xn,Zc2]
  split at h
  ·rename_i ha
   injection h with h
   subst h
   exact⟨_,rfl,Xt ⟨0,f u,rfl,rfl⟩⟩
  ·rename_i ha
   obtain⟨l',h1,rfl⟩:=Xq.1 h
   obtain⟨r,h2,h3⟩:=Znx f (i+1) h1
   refine⟨r,h2,?_⟩
   rcases h3 with⟨rfl,rfl⟩ |⟨j,y,rfl,rfl⟩
   ·exact Xp ⟨rfl,rfl⟩
   ·exact Xt ⟨j+1,y,by rw[Wf,Xaw 1 j],rfl⟩
  ·cases h
theorem Zrm{α:Type}(f:α->AVal){k:AVal}:∀ {es l:List (AVal×α)} (i:Nat),Zic k es=some l->∃ r,Zc2 k (es.map fun p=>(p.1,f p.2)) i=some r/\((r=none/\l=es)\/∃ j y,r=some (i+j,y)/\l=es.eraseIdx j)
 | [],l,i,h=>by
  simp only[Zic,Xa]at h
  subst h
  exact⟨none,rfl,Xp ⟨rfl,rfl⟩⟩
 |(x,u)::es,l,i,h=>by
  simp only[Zic]at h
  simp only[Xn,Zc2]
  split at h
  ·rename_i ha
   injection h with h
   subst h
   exact⟨_,rfl,Xt ⟨0,f u,rfl,rfl⟩⟩
  ·rename_i ha
   obtain⟨l',h1,rfl⟩:=Xq.1 h
   obtain⟨r,h2,h3⟩:=Zrm f (i+1) h1
   refine⟨r,h2,?_⟩
   rcases h3 with⟨rfl,rfl⟩ |⟨j,y,rfl,rfl⟩
   ·exact Xp ⟨rfl,rfl⟩
   ·exact Xt ⟨j+1,y,by rw[Wf,Xaw 1 j],rfl⟩
  ·cases h
theorem ZwW{α:Type}(f:α->AVal){k:AVal}{v:α}{es l:List (AVal×α)}{r:Option (Nat×AVal)}(h:(r=none/\l=es++[(k,v)])\/∃ j y,r=some (0+j,y)/\l=es.set j (k,v)):ZgB (es.map fun p=>(p.1,f p.2)) k (f v) r=l.map fun p=>(p.1,f p.2):=by
 rcases h with⟨rfl,rfl⟩ |⟨j,y,rfl,rfl⟩
 ·simp[ZgB]
 ·simp only[ZgB,Xv,XaJ]
theorem Zys{α:Type}(f:α->AVal){es l:List (AVal×α)}{r:Option (Nat×AVal)}(h:(r=none/\l=es)\/∃ j y,r=some (0+j,y)/\l=es.eraseIdx j):ZjF (es.map fun p=>(p.1,f p.2)) r=l.map fun p=>(p.1,f p.2):=by
 rcases h with⟨rfl,rfl⟩ |⟨j,y,rfl,rfl⟩
 ·rfl
 ·simp only[ZjF,Xv,Zdd]
theorem OneG.ne{t n g g' b b' k c k' c':Nat}(h:OneG β t n)(h1:1001<=g)(h2:g<1001+3*n)(h3:1001<=g')(h4:g'<1001+3*n)(e:β t g=some ⟨some b,k,c⟩)(e':β t g'=some ⟨some b',k',c'⟩)(hne:g≠g'):b≠b':=by
 rintro rfl
 exact hne (h g g' b h1 h2 h3 h4 (by rw[e];rfl) (by rw[e'];rfl))
theorem NodeW.keep2{I I':Imm}{β β':Bmap}{w w':World}{t i n n':Nat}{nd:List (AVal×AVal)×List (AVal×Nat)}(h:NodeW I β w t i nd n)(hn:n<=n')(hI:I.le I')(hβ:β.le β')(hk:∀ g b k c,(g=1001+3*i\/g=Z6 i false\/g=Z6 i true)->β t g=some ⟨some b,k,c⟩->w'.heap[b]?=w.heap[b]?):NodeW I' β' w' t i nd n':=by
 obtain⟨bs,k0,c0,us,ty,bv,k1,c1,arr,clk,bn,k2,c2,arr',clk',h0,h1,h2,⟨a1,a2⟩,⟨b1,b2,b3,b4,b5⟩,d1,d2,d3,d4,d5⟩:=h
 exact⟨bs,k0,c0,us,ty,bv,k1,c1,arr,clk,bn,k2,c2,arr',clk',hβ _ _ _ h0,hβ _ _ _ h1,hβ _ _ _ h2,⟨by rw[hk _ bs _ _ (Xp rfl) h0];exact a1,a2⟩,⟨by rw[hk _ bv _ _ (Xt (Xp rfl)) h1];exact b1,VRs.mono hI hβ _ _ b2,VRs.mono hI hβ _ _ b3,b4,b5⟩,by rw[hk _ bn _ _ (Xt (Xt rfl)) h2];exact d1,VRs.mono hI hβ _ _ d2,VRs.mono hI hβ _ _ d3,fun p hp=>⟨(d4 p hp).1,by have:=(d4 p hp).2;omega⟩,d5⟩
def Zfi(n:Nat)(nx:Bool)(nd:List (AVal×AVal)×List (AVal×Nat)):Prop:=if nx then ∀ p∈nd.2,p.2<n else ∀ p∈nd.1,Z5 p.2=true
theorem NodeW.relay{t i n n' b k c clk:Nat}{nx:Bool}{nd nd':List (AVal×AVal)×List (AVal×Nat)}{arr:Array MapEntry}{us0:Obj}(h:NodeW I β w t i nd n)(hn:n<=n')(hI:I.le I')(hβ:β.le β')(hb:β t (Z6 i nx)=some ⟨some b,k,c⟩)
  (hkp:∀ g b' k c,(g=1001+3*i\/g=Z6 i false\/g=Z6 i true)->g≠Z6 i nx->β t g=some ⟨some b',k,c⟩->w'.heap[b']?=w.heap[b']?)
  (hw:w'.heap[b]?=some (.map arr clk)) (M:MapW I' β' (Zcm t nd' nx) arr clk) (he:Zfi n' nx nd') (hs:if nx then nd'.1=nd.1 else nd'.2=nd.2):NodeW I' β' w' t i nd' n':=by
 obtain⟨bs,k0,c0,us,ty,bv,k1,c1,arr1,clk1,bn,k2,c2,arr2,clk2,h0,h1,h2,⟨a1,a2⟩,⟨b1,b2,b3,b4,b5⟩,d1,d2,d3,d4,d5⟩:=h
 obtain⟨m1,m2,m3,m4⟩:=M
 cases nx
 ·simp only[Xl,if_false,Zcm]at hs m1 m2 m3
  rw[h1]at hb
  simp only[Xa,BI.mk.injEq]at hb
  obtain⟨rfl,rfl,rfl⟩:=hb
  simp only[Zfi,Xl,if_false]at he
  refine⟨bs,k0,c0,us,ty,bv,k1,c1,arr,clk,bn,k2,c2,arr2,clk2,hβ _ _ _ h0,hβ _ _ _ h1,hβ _ _ _ h2,⟨by rw[hkp _ bs _ _ (Xp rfl) (by unfold Z6;simp) h0];exact a1,a2⟩,⟨hw,m1,m2,fun p hp=>⟨m3 p hp,he p hp⟩,m4⟩,?_⟩
  rw[hs]
  exact⟨by rw[hkp _ bn _ _ (Xt (Xt rfl)) (by unfold Z6;simp) h2];exact d1,VRs.mono hI hβ _ _ d2,VRs.mono hI hβ _ _ d3,fun p hp=>⟨(d4 p hp).1,by have:=(d4 p hp).2;omega⟩,d5⟩
 ·simp only[if_true,Zcm,WG]at hs m1 m2 m3
  rw[h2]at hb
  simp only[Xa,BI.mk.injEq]at hb
  obtain⟨rfl,rfl,rfl⟩:=hb
  simp only[Zfi,if_true]at he
  refine⟨bs,k0,c0,us,ty,bv,k1,c1,arr1,clk1,bn,k2,c2,arr,clk,hβ _ _ _ h0,hβ _ _ _ h1,hβ _ _ _ h2,⟨by rw[hkp _ bs _ _ (Xp rfl) (by unfold Z6;simp) h0];exact a1,a2⟩,?_,hw,m1,m2,fun p hp=>⟨?_,he p hp⟩,m4⟩
  ·rw[hs]
   exact⟨by rw[hkp _ bv _ _ (Xt (Xp rfl)) (by unfold Z6;simp) h1];exact b1,VRs.mono hI hβ _ _ b2,VRs.mono hI hβ _ _ b3,b4,b5⟩
  ·exact m3 _ (XG.2 ⟨p,hp,rfl⟩)
theorem Rel.relay(R:Rel base w0 I0 I β σ w){t j b k c clk:Nat}{nx:Bool}{ns:Zbg}{nd nd':List (AVal×AVal)×List (AVal×Nat)}{arr:Array MapEntry}(hs:σ[t]?=some (.arena ns))(hj:ns[j]?=some nd)(hb:β t (Z6 j nx)=some ⟨some b,k,c⟩)
  (M:MapW I β (Zcm t nd' nx) arr clk) (he:Zfi ns.length nx nd') (hsm:if nx then nd'.1=nd.1 else nd'.2=nd.2) :
  Rel base w0 I0 I β (σ.set t (.arena (ns.set j nd'))) { w with heap:=w.heap.setIfInBounds b (.map arr clk) }:=by
 have A:ArenaW I β w t ns:=R.blk _ _ hs
 have hjl:j<ns.length:=(Xh.1 hj).1
 have hG:1001<=Z6 j nx/\Z6 j nx<1001+3*ns.length:=by unfold Z6;cases nx<;>simp<;>omega
 have hbO:Zbr β t ns b:=Zfh hjl hb
 have hlt:=A.lt hbO
 have oth:∀ i g b' k c,i<ns.length->(g=1001+3*i\/g=Z6 i false\/g=Z6 i true)->g≠Z6 j nx->β t g=some ⟨some b',k,c⟩->(w.heap.setIfInBounds b (.map arr clk))[b']?=w.heap[b']?:=by
  intro i g b' k' c' hi hg hne e
  have hG':1001<=g/\g<1001+3*ns.length:=by rcases hg with rfl |rfl |rfl<;>(try unfold Z6)<;>simp<;>omega
  have:=A.2.ne hG'.1 hG'.2 hG.1 hG.2 e hb hne
  rw[XN (fun e=>this e.symm)]
 have key:=R.upd (w':={ w with heap:=w.heap.setIfInBounds b (.map arr clk) }) (Imm.le.refl I) (Bmap.le.refl β) ⟨rfl,rfl,rfl,by simp,fun k hk=>by
  rw[XN (by rintro rfl;exact(R.own t _ b hs hbO).1 hk)]⟩ (fun _ _ _=>rfl) (fun b' o u h=>by
   have hne:b'≠b:=by rintro rfl;rw[(R.own t _ b' hs hbO).2 o]at h;cases h
   rw[<-R.imm b' o u h]
   simp only[World.cell?,XN (fun e=>hne e.symm)]) t (.arena (ns.set j nd')) rfl (Xh.1 hs).1 (fun _ _ _=>rfl) ?_ ?_ ?_ ?_ (by simp)
 ·exact key
 ·intro t' y b' hne hy hb'
  have hbb:b'≠b:=by rintro rfl;exact hne (R.apart t' y t _ b' hy hs hb' hbO)
  refine⟨by rw[XN (fun e=>hbb e.symm)],(R.own t' y b' hy hb').2,?_⟩
  rintro⟨g,g1,g2,g3⟩
  rw[Ws]at g2
  exact hne (R.apart t' y t _ b' hy hs hb' ⟨g,g1,g2,g3⟩)
 ·refine⟨fun i nd1 hi=>?_,by rw[Ws];exact A.2⟩
  rw[Ws]
  rw[Xr]at hi
  by_cases e:j=i
  ·subst e
   rw[if_pos rfl,if_pos hjl]at hi
   injection hi with hi
   subst hi
   exact(A.1 j nd hj).relay (us0:=.map arr clk) (XD _) (Imm.le.refl I) (Bmap.le.refl β) hb (fun g b' k c hg hne e=>oth j g b' k c hjl hg hne e) (by rw[X7 hlt]) M he hsm
  ·rw[if_neg e]at hi
   refine(A.1 i nd1 hi).keep2 (XD _) (Imm.le.refl I) (Bmap.le.refl β) (fun g b' k c hg e'=>oth i g b' k c (Xh.1 hi).1 hg ?_ e')
   rcases hg with rfl |rfl |rfl<;>cases nx<;>unfold Z6<;>simp<;>omega
 ·rintro b' ⟨g,g1,g2,g3⟩
  rw[Ws]at g2
  exact R.own t _ b' hs ⟨g,g1,g2,g3⟩
 ·intro g hg
  simp only[genB,Ws]at hg
  exact R.gen t _ g hs hg
def Zdq(β:Bmap)(t s n:Nat):Bmap:=fun t' g=>if t'=t/\1001+3*n<=g/\g<1001+3*n+3 then β s (g-3*n)else β t' g
theorem MapW.mono{es:List (AVal×AVal)}{arr:Array MapEntry}{clk:Nat}(h:MapW I β es arr clk)(hI:I.le I')(hβ:β.le β'):MapW I' β' es arr clk:=⟨VRs.mono hI hβ _ _ h.1,VRs.mono hI hβ _ _ h.2.1,h.2.2⟩
theorem Rel.merge_le(R:Rel base w0 I0 I β σ w){t s:Nat}{ns:Zbg}(hs:σ[t]?=some (.arena ns)):β.le (Zdq β t s ns.length):=by
 intro t' g bi e
 unfold Zdq
 split
 ·rename_i h
  obtain⟨rfl,h1,h2⟩:=h
  rw[R.gen t' _ g hs (by simp only[genB];omega)]at e;cases e
 ·exact e
theorem Rel.merge (R : Rel base w0 I0 I β σ w) {t s j b k c clk : Nat} {ns : Zbg} {nd nd' : List (AVal × AVal) × List (AVal × Nat)} {arr : Array MapEntry} (hst : s ≠ t) (hs : σ[t]? = some (.arena ns)) (hs' : σ[s]? = some (.arena [([], [])])) (hj : ns[j]? = some nd) (hb : β t (Z6 j true) = some ⟨some b, k, c⟩)
    (M : MapW I (Zdq β t s ns.length) (Zcm t nd' true) arr clk) (he : Zfi (ns.length + 1) true nd') (hsm : nd'.1 = nd.1) :
    Rel base w0 I0 I (Zdq β t s ns.length) ((σ.set s (.dead 3)).set t (.arena (ns.set j nd' ++ [([], [])]))) { w with heap := w.heap.setIfInBounds b (.map arr clk) } := by
  have A : ArenaW I β w t ns := R.blk _ _ hs
  have As : ArenaW I β w s [([], [])] := R.blk _ _ hs'
  have hjl : j < ns.length := (Xh.1 hj).1
  have hle := R.merge_le (s := s) hs
  have hG : 1001 <= Z6 j true /\ Z6 j true < 1001 + 3 * ns.length := by unfold Z6; simp; omega
  have hbO : Zbr β t ns b := Zfh hjl hb
  have hlt := A.lt hbO
  have R1 := R.swap (x' := .dead 3) hs' trivial (fun b h => by cases h) (by simp [genB]) (by simp)
  have hs1 : (σ.set s (.dead 3))[t]? = some (.arena ns) := by rw [XS hst]; exact hs
  have oOld : ∀ g b', 1001 <= g -> g < 1001 + 3 * ns.length -> (β t g).bind (·.b) = some b' -> Zbr β t ns b' := fun g b' h1 h2 h3 => ⟨g, h1, h2, h3⟩
  have oNew : ∀ g b', 1001 + 3 * ns.length <= g -> g < 1001 + 3 * ns.length + 3 -> (β s (g - 3 * ns.length)).bind (·.b) = some b' -> Zbr β s [([], [])] b' := fun g b' h1 h2 h3 => ⟨g - 3 * ns.length, by omega, by simp; omega, h3⟩
  have sep : ∀ b1 b2, Zbr β t ns b1 -> Zbr β s [([], [])] b2 -> b1 ≠ b2 := by
    rintro b1 b2 h1 h2 rfl
    exact hst (R.apart t _ s _ b1 hs hs' h1 h2).symm
  have at_new : ∀ g, 1001 + 3 * ns.length <= g -> g < 1001 + 3 * ns.length + 3 -> Zdq β t s ns.length t g = β s (g - 3 * ns.length) := fun g h1 h2 => by unfold Zdq; rw [if_pos ⟨rfl, h1, h2⟩]
  have at_old : ∀ g, g < 1001 + 3 * ns.length -> Zdq β t s ns.length t g = β t g := fun g h1 => by unfold Zdq; rw [if_neg (by rintro ⟨_, h2, _⟩; omega)]
  have own' : ∀ b', Zbr (Zdq β t s ns.length) t (ns.set j nd' ++ [([], [])]) b' -> Zbr β t ns b' \/ Zbr β s [([], [])] b' := by
    rintro b' ⟨g, g1, g2, g3⟩
    simp only [Xk, Ws, WT] at g2
    by_cases h : g < 1001 + 3 * ns.length
    . rw [at_old g h] at g3; exact Xp (oOld g b' g1 h g3)
    . rw [at_new g (by omega) (by omega)] at g3; exact Xt (oNew g b' (by omega) (by omega) g3)
  have hpne : ∀ b', b' ≠ b -> (w.heap.setIfInBounds b (.map arr clk))[b']? = w.heap[b']? := fun b' h => by rw [XN (fun e => h e.symm)]
  have oth : ∀ i g b' k c, i < ns.length -> (g = 1001 + 3 * i \/ g = Z6 i false \/ g = Z6 i true) -> g ≠ Z6 j true -> β t g = some ⟨some b', k, c⟩ -> (w.heap.setIfInBounds b (.map arr clk))[b']? = w.heap[b']? := by
    intro i g b' k' c' hi hg hne e
    have hG' : 1001 <= g /\ g < 1001 + 3 * ns.length := by rcases hg with rfl | rfl | rfl <;> (try unfold Z6) <;> simp <;> omega
    exact hpne b' (A.2.ne hG'.1 hG'.2 hG.1 hG.2 e hb hne)
  have key := R1.upd (w' := { w with heap := w.heap.setIfInBounds b (.map arr clk) }) (Imm.le.refl I) hle ⟨rfl, rfl, rfl, by simp, fun k hk => hpne k (by rintro rfl; exact (R.own t _ k hs hbO).1 hk)⟩ (fun _ _ _ => rfl) (fun b' o u h => by
      have hne : b' ≠ b := by rintro rfl; rw [(R.own t _ b' hs hbO).2 o] at h; cases h
      rw [<- R.imm b' o u h]
      simp only [World.cell?, hpne b' hne]) t (.arena (ns.set j nd' ++ [([], [])])) rfl (Xh.1 hs1).1 (fun t' g hne => by unfold Zdq; rw [if_neg (by rintro ⟨h, _⟩; exact hne h)]) ?_ ?_ ?_ ?_ (by simp)
  . exact key
  . intro t' y b' hne hy hb'
    have hts : t' ≠ s := by
      rintro rfl
      rw [List.getElem?_set_self (Xh.1 hs').1] at hy
      injection hy with hy; subst hy; cases hb'
    rw [XS (fun e => hts e.symm)] at hy
    have hbb : b' ≠ b := by rintro rfl; exact hne (R.apart t' y t _ b' hy hs hb' hbO)
    refine ⟨hpne b' hbb, (R.own t' y b' hy hb').2, fun ho => ?_⟩
    rcases own' b' ho with h | h
    . exact hne (R.apart t' y t _ b' hy hs hb' h)
    . exact hts (R.apart t' y s _ b' hy hs' hb' h)
  . have hl : (ns.set j nd' ++ [([], [])] : Zbg).length = ns.length + 1 := by simp
    refine ⟨fun i nd1 hi => ?_, ?_⟩
    . rw [hl]
      by_cases hin : i < ns.length
      . rw [Wh (by simpa using hin), Xr] at hi
        by_cases e : j = i
        . subst e
          rw [if_pos rfl, if_pos hjl] at hi
          injection hi with hi
          subst hi
          exact (A.1 j nd hj).relay (us0 := .map arr clk) (Nat.le_succ _) (Imm.le.refl I) hle hb (fun g b' k c hg hne e => oth j g b' k c hjl hg hne e) (by rw [X7 hlt]) M he hsm
        . rw [if_neg e] at hi
          refine (A.1 i nd1 hi).keep2 (Nat.le_succ _) (Imm.le.refl I) hle (fun g b' k c hg e' => oth i g b' k c hin hg ?_ e')
          rcases hg with rfl | rfl | rfl <;> unfold Z6 <;> simp <;> omega
      . rw [List.getElem?_append_right (by simpa using hin)] at hi
        have hi0 : i = ns.length := by
          have := (Xh.1 hi).1
          simp at this
          omega
        subst hi0
        simp only [Ws, Xam, XE, Xa] at hi
        subst hi
        obtain ⟨bs, k0, c0, us, ty, bv, k1, c1, arr1, clk1, bn, k2, c2, arr2, clk2, h0, h1, h2, ⟨a1, a2⟩, ⟨b1, b2, b3, b4, b5⟩, d1, d2, d3, d4, d5⟩ := As.1 0 ([], []) rfl
        have n0 := sep b bs hbO (Ztn (j := 0) (by simp) h0)
        have n1 := sep b bv hbO (Zfh (j := 0) (by simp) h1)
        have n2 := sep b bn hbO (Zfh (j := 0) (by simp) h2)
        refine ⟨bs, k0, c0, us, ty, bv, k1, c1, arr1, clk1, bn, k2, c2, arr2, clk2, ?_, ?_, ?_, ⟨by rw [hpne bs n0.symm]; exact a1, a2⟩, ⟨by rw [hpne bv n1.symm]; exact b1, b2, b3, b4, b5⟩, by rw [hpne bn n2.symm]; exact d1, d2, d3, (fun p hp => absurd hp (by simp)), d5⟩
        . rw [at_new _ (by omega) (by omega), <- h0]; congr 1; omega
        . rw [at_new _ (by unfold Z6; simp only [Xl, if_false]; omega) (by unfold Z6; simp only [Xl, if_false]; omega), <- h1]; congr 1; unfold Z6; simp only [Xl, if_false]; omega
        . rw [at_new _ (by unfold Z6; simp only [if_true]; omega) (by unfold Z6; simp only [if_true]; omega), <- h2]; congr 1; unfold Z6; simp only [if_true]; omega
    . rw [hl]
      intro g g' b' h1 h2 h3 h4 e e'
      by_cases h : g < 1001 + 3 * ns.length <;> by_cases h' : g' < 1001 + 3 * ns.length
      . rw [at_old g h] at e; rw [at_old g' h'] at e'
        exact A.2 g g' b' h1 h h3 h' e e'
      . rw [at_old g h] at e; rw [at_new g' (by omega) (by omega)] at e'
        exact absurd rfl (sep b' b' (oOld g b' h1 h e) (oNew g' b' (by omega) (by omega) e'))
      . rw [at_new g (by omega) (by omega)] at e; rw [at_old g' h'] at e'
        exact absurd rfl (sep b' b' (oOld g' b' h3 h' e') (oNew g b' (by omega) (by omega) e))
      . rw [at_new g (by omega) (by omega)] at e; rw [at_new g' (by omega) (by omega)] at e'
        have := As.2 (g - 3 * ns.length) (g' - 3 * ns.length) b' (by omega) (by simp; omega) (by omega) (by simp; omega) e e'
        omega
  . intro b' ho
    rcases own' b' ho with h | h
    . exact R.own t _ b' hs h
    . exact R.own s _ b' hs' h
  . intro g hg
    simp only [genB, Xk, Ws, WT] at hg
    unfold Zdq
    rw [if_neg (by rintro ⟨_, _, h⟩; omega)]
    exact R.gen t _ g hs (by simp only [genB]; omega)
end
end
section
open Go.RowKit
section
variable {P:Program}{base:Nat->Prop}{w0 w w':World}{I0 I I':Imm}{β β':Bmap}{σ σ':Za}
theorem ZPi(R:Rel base w0 I0 I β σ w){t kt et:TypeId}(ht:P.underlying t=some (.map kt et)){d:TypeDesc}(hdk:P.underlying kt=some d){kc:Nat}(hd:Za5 d=some kc){z:AVal}(hz:Zdk P et=some z){ok:Bool}{m k v:AVal}{vm vk:Value}{c:Cls}(hm:VR I β m vm)(hk:VR I β k vk)
  (h:ZdG σ kc z ok m k=some (v,σ',c)):σ'=σ/\∃ u,(Instr.lookup t vm vk ok).run P w=.ok u w/\VR I β v u:=by
 obtain⟨vz,hvz,hzr⟩:=ZqR (P:=P) (w:=w) (I:=I) (β:=β) hz
 unfold ZdG at h
 split at h
 case isFalse=>cases h
 rename_i hkc
 have hd':Za5 d=some (Zak k):=by rw[hd,hkc]
 split at h
 ·simp only[Xa,Xc]at h
  obtain⟨rfl,rfl,rfl⟩:=h
  simp only[VR]at hm
  subst hm
  have hf:=ZbV (P:=P) (w:=w) hdk (v:=vk) (arr:=[]) (r:=none) (by simp[Instr.findNow])
  refine⟨rfl,if ok then .tuple #[vz,.bool false]else vz,?_,?_⟩
  ·simp[Instr.lookup,run_underlying ht,ZbP hdk hd,hf,hvz]
  ·cases ok
   ·exact hzr
   ·exact Zg7 false hzr
 ·rename_i t' j nx
  simp only[VR]at hm
  obtain⟨bb,kk,cc,hb,rfl⟩:=hm
  split at h
  case h_2=>cases h
  rename_i ns hns
  split at h
  case h_2=>cases h
  rename_i nd hj
  obtain⟨b',k',c',arr,clk,e1,e2,e3,e4,e5,e6⟩:=((R.nodes hns).1 j nd hj).mapBlk nx
  rw[hb]at e1
  simp only[Xa,BI.mk.injEq]at e1
  obtain⟨rfl,rfl,rfl⟩:=e1
  split at h
  ·rename_i y hf
   simp only[Xa,Xc]at h
   obtain⟨rfl,rfl,rfl⟩:=h
   obtain⟨u,hu1,hu2⟩:=Zxn ht hdk hd hz (ok:=ok) hkc hk e2 ⟨e3,e4,e5,e6⟩ hf
   exact⟨rfl,u,hu1,hu2⟩
  ·rename_i hf
   simp only[Xa,Xc]at h
   obtain⟨rfl,rfl,rfl⟩:=h
   obtain⟨u,hu1,hu2⟩:=Zxn ht hdk hd hz (ok:=ok) hkc hk e2 ⟨e3,e4,e5,e6⟩ hf
   exact⟨rfl,u,hu1,hu2⟩
  ·cases h
 ·rename_i b
  simp only[VR]at hm
  obtain⟨bb,kk,cc,hb,rfl⟩:=hm
  split at h
  ·rename_i es hs
   obtain⟨b',k',c',arr,clk,e1,e2,e3,e4,_⟩:=R.blk _ _ hs
   rw[hb]at e1
   simp only[Xa,BI.mk.injEq]at e1
   obtain⟨rfl,rfl,rfl⟩:=e1
   have hg:=Zdr (P:=P) e2
   split at h
   ·rename_i j y hf
    simp only[Xa,Xc]at h
    obtain⟨rfl,rfl,rfl⟩:=h
    rcases Zeg hd' hk es arr.toList 0 _ e3 e4 hf with⟨h1,_⟩ |⟨j',y',e,p,h1,h2,_,_,_,h5,_⟩
    ·cases h1
    ·injection h1 with h1
     injection h1 with h1 h1'
     subst h1'
     have hr:=ZbV (P:=P) (w:=w) hdk h2
     refine⟨rfl,if ok then .tuple #[e.val,.bool true]else e.val,?_,?_⟩
     ·simp[Instr.lookup,run_underlying ht,ZbP hdk hd,hg,hr]
     ·cases ok
      ·exact h5
      ·exact Zg7 true h5
   ·rename_i hf
    simp only[Xa,Xc]at h
    obtain⟨rfl,rfl,rfl⟩:=h
    rcases Zeg hd' hk es arr.toList 0 _ e3 e4 hf with⟨_,h2⟩ |⟨j',y',e,p,h1,_⟩
    ·have hr:=ZbV (P:=P) (w:=w) hdk h2
     refine⟨rfl,if ok then .tuple #[vz,.bool false]else vz,?_,?_⟩
     ·simp[Instr.lookup,run_underlying ht,ZbP hdk hd,hg,hr,hvz]
     ·cases ok
      ·exact hzr
      ·exact Zg7 false hzr
    ·cases h1
   ·cases h
  ·rename_i es hs
   obtain⟨b',k',c',arr,clk,e1,e2,e3,e4,_⟩:=R.blk _ _ hs
   rw[hb]at e1
   simp only[Xa,BI.mk.injEq]at e1
   obtain⟨rfl,rfl,rfl⟩:=e1
   have hg:=Zdr (P:=P) e2
   split at h
   ·rename_i j y hf
    simp only[Xa,Xc]at h
    obtain⟨rfl,rfl,rfl⟩:=h
    rcases Zeg hd' hk es arr.toList 0 _ e3 e4 hf with⟨h1,_⟩ |⟨j',y',e,p,h1,h2,_,_,_,h5,_⟩
    ·cases h1
    ·injection h1 with h1
     injection h1 with h1 h1'
     subst h1'
     have hr:=ZbV (P:=P) (w:=w) hdk h2
     refine⟨rfl,if ok then .tuple #[e.val,.bool true]else e.val,?_,?_⟩
     ·simp[Instr.lookup,run_underlying ht,ZbP hdk hd,hg,hr]
     ·cases ok
      ·exact h5
      ·exact Zg7 true h5
   ·rename_i hf
    simp only[Xa,Xc]at h
    obtain⟨rfl,rfl,rfl⟩:=h
    rcases Zeg hd' hk es arr.toList 0 _ e3 e4 hf with⟨_,h2⟩ |⟨j',y',e,p,h1,_⟩
    ·have hr:=ZbV (P:=P) (w:=w) hdk h2
     refine⟨rfl,if ok then .tuple #[vz,.bool false]else vz,?_,?_⟩
     ·simp[Instr.lookup,run_underlying ht,ZbP hdk hd,hg,hr,hvz]
     ·cases ok
      ·exact hzr
      ·exact Zg7 false hzr
    ·cases h1
   ·cases h
  ·cases h
 ·cases h
theorem ZkX(R:Rel base w0 I0 I β σ w){t b k c:Nat}{es es':List (AVal×AVal)}(hs:σ[t]?=some (.map es))(hb:β t 0=some ⟨some b,k,c⟩){arr':Array MapEntry}{clk':Nat}(hk:VRs I β (es'.map (·.1)) (arr'.toList.map (·.key)))(hv:VRs I β (es'.map (·.2)) (arr'.toList.map (·.val)))(hA:∀ p∈es',Zcn p.1=true)(hS:Zel arr' clk')(hlt:b<w.heap.size) :
  Rel base w0 I0 I β (σ.set t (.map es')) { w with heap:=w.heap.setIfInBounds b (.map arr' clk') } :=
 R.putObj hs (by simp[Zo,hb]) _ (by simp[Zo,hb]) ⟨b,k,c,arr',clk',hb,by rw[X7 hlt],hk,hv,hA,hS⟩ rfl
theorem ZB9(R:Rel base w0 I0 I β σ w){t kt et:TypeId}(ht:P.underlying t=some (.map kt et)){d:TypeDesc}(hdk:P.underlying kt=some d){kc:Nat}(hd:Za5 d=some kc){m k x v:AVal}{vm vk vx:Value}{c:Cls}(hm:VR I β m vm)(hk:VR I β k vk)(hx:VR I β x vx)(hng:∀ t,m=.map t->∀ w es,σ[t]?≠some (.gmap w es))
  (h:ZiL σ kc m k x=some (v,σ',c)):v=.tup []/\∃ w' β',(Instr.mapUpdate t vm vk vx).run P w=.ok () w'/\β.le β'/\Rel base w0 I0 I β' σ' w':=by
 unfold ZiL at h
 split at h
 case isFalse=>cases h
 rename_i hkc
 obtain⟨hkc,hkA,_⟩:=hkc
 have hd':Za5 d=some (Zak k):=by rw[hd,hkc]
 split at h
 case h_3=>cases h
 case h_1 =>
  rename_i t' j nx
  simp only[VR]at hm
  obtain⟨bb,kk,cc,hb,rfl⟩:=hm
  split at h
  case h_2=>cases h
  rename_i ns hs
  split at h
  case h_2=>cases h
  rename_i nd hj
  have hAr:ArenaW I β w t' ns:=R.blk _ _ hs
  obtain⟨b',k',c',arr,clk,e1,e2,e3,e4,e5,e6⟩:=(hAr.1 j nd hj).mapBlk nx
  rw[hb]at e1
  simp only[Xa,BI.mk.injEq]at e1
  obtain⟨rfl,rfl,rfl⟩:=e1
  split at h
  ·rename_i hnx
   subst hnx
   split at h
   case h_2=>cases h
   rename_i s _
   split at h
   case isTrue=>cases h
   rename_i hst
   split at h
   case h_2=>cases h
   rename_i ms hs'
   split at h
   case h_2=>cases h
   split at h
   case h_2=>cases h
   rename_i l hl
   simp only[Xa,Xc]at h
   obtain⟨rfl,rfl,rfl⟩:=h
   obtain⟨r,hr1,hr2⟩:=Znx (fun n=>AVal.nref t' n 0) 0 hl
   have hle:=R.merge_le (s:=s) hs
   have hx':VR I (Zdq β t' s ns.length) (.nref t' ns.length 0) vx:=by
    simp only[VR]at hx ⊢
    obtain⟨b1,k1,c1,h1,h2⟩:=hx
    refine⟨b1,k1,c1,?_,h2⟩
    unfold Zdq
    rw[if_pos ⟨rfl,by omega,by omega⟩,<-h1]
    congr 1;omega
   obtain⟨arr',clk',hu1,hu2⟩:=ZuW (P:=P) (w:=w) (β:=Zdq β t' s ns.length) ht hdk hd hkc hkA (VR.mono (Imm.le.refl I) hle _ _ hk) hx' e2 (MapW.mono ⟨e3,e4,e5,e6⟩ (Imm.le.refl I) hle) hr1
   refine⟨rfl,_,_,hu1,hle,R.merge hst hs hs' hj hb (nd':=(nd.1,l)) ?_ ?_ rfl⟩
   ·rw[show Zcm t' (nd.1,l) true=l.map fun p=>(p.1,AVal.nref t' p.2 0)from rfl,<-ZwW (fun n=>AVal.nref t' n 0) hr2]
    exact hu2
   ·have hA:NodeW I β w t' j nd ns.length:=hAr.1 j nd hj
    obtain⟨_,_,_,_,_,_,_,_,_,_,_,_,_,_,_,_,_,_,_,_,_,_,_,d4,_⟩:=hA
    simp only[Zfi,if_true]
    intro p hp
    rcases hr2 with⟨_,rfl⟩ |⟨i,y,_,rfl⟩
    ·rcases Xs.1 hp with hp |hp
     ·have:=(d4 p hp).2;omega
     ·rw[XM]at hp;subst hp;exact XaF _
    ·rcases XZ hp with hp |rfl
     ·have:=(d4 p hp).2;omega
     ·exact XaF _
  ·rename_i hnx
   have hnx:nx=false:=by simpa using hnx
   subst hnx
   split at h
   case isFalse=>cases h
   rename_i hfl
   split at h
   case h_2=>cases h
   rename_i l hl
   simp only[Xa,Xc]at h
   obtain⟨rfl,rfl,rfl⟩:=h
   obtain⟨r,hr1,hr2⟩:=Znx (fun v=>v) 0 hl
   have hid:∀ es:List (AVal×AVal),(es.map fun p=>(p.1,p.2))=es:=fun es=>by simp
   rw[hid]at hr1
   obtain⟨arr',clk',hu1,hu2⟩:=ZuW (P:=P) (w:=w) ht hdk hd hkc hkA hk hx e2 ⟨e3,e4,e5,e6⟩ hr1
   refine⟨rfl,_,_,hu1,Bmap.le.refl β,R.relay hs hj hb (nd':=(l,nd.2)) ?_ ?_ rfl⟩
   ·have:=ZwW (fun v=>v) hr2
    rw[hid,hid]at this
    show MapW I β l arr' clk'
    rw[<-this]
    exact hu2
   ·have hA:NodeW I β w t' j nd ns.length:=hAr.1 j nd hj
    obtain⟨_,_,_,_,_,_,_,_,_,_,_,_,_,_,_,_,_,_,_,⟨_,_,_,b4,_⟩,_⟩:=hA
    simp only[Zfi,Xl,if_false]
    intro p hp
    rcases hr2 with⟨_,rfl⟩ |⟨i,y,_,rfl⟩
    ·rcases Xs.1 hp with hp |hp
     ·exact(b4 p hp).2
     ·rw[XM]at hp;subst hp;exact hfl
    ·rcases XZ hp with hp |rfl
     ·exact(b4 p hp).2
     ·exact hfl
 rename_i b
 simp only[VR]at hm
 obtain⟨bb,kk,cc,hb,rfl⟩:=hm
 split at h
 case h_2=>rename_i hs;exact absurd hs (hng _ rfl _ _)
 case h_3=>cases h
 rename_i es hs
 obtain⟨b',k',c',arr,clk,e1,e2,e3,e4,e5,e6,e7⟩:=R.blk _ _ hs
 have hb0:=hb
 rw[hb]at e1
 simp only[Xa,BI.mk.injEq]at e1
 obtain⟨rfl,rfl,rfl⟩:=e1
 have hg:=Zdr (P:=P) e2
 have hlt:bb<w.heap.size:=(Xz.1 e2).1
 split at h
 ·rename_i j y hf
  simp only[Xa,Xc]at h
  obtain⟨rfl,rfl,rfl⟩:=h
  rcases Zeg hd' hk es arr.toList 0 _ e3 e4 hf with⟨h1,_⟩ |⟨j',y',e,p,h1,h2,h3,h4,_,h5,h6,h7⟩
  ·cases h1
  ·simp only[Xv]at h1 h2
   injection h1 with h1
   injection h1 with h1 h1'
   subst h1 h1'
   have hr:=ZbV (P:=P) (w:=w) hdk h2
   obtain⟨sb,_⟩:=Zrb h6 hk h7
   have h3':arr[j]?=some e:=by rw[<-XaW];exact h3
   have hst:(Instr.keyThatStays (((arr[j]?).map (·.key)).getD vk) vk).run P w=.ok vk w:=by
    rw[h3']
    simp[Instr.keyThatStays,sb]
   refine⟨rfl,_,_,?_,Bmap.le.refl β,ZkX R hs hb0 (arr':=arr.modify j fun e=>{ e with key:=vk,val:=vx }) (clk':=clk) ?_ ?_ ?_ ?_ hlt⟩
   ·simp only[Instr.mapUpdate,run_underlying ht,ZbP hdk hd,hg,hr,hst,Sem.run_bind,Result.andThen_ok,Zec e2]
   ·rw[Zee,Zh8 (fun x:MapEntry=>x.key) _ vk (fun _=>rfl),XaJ]
    exact ZjL e3 hk j
   ·rw[Zee,Zh8 (fun x:MapEntry=>x.val) _ vx (fun _=>rfl),XaJ]
    exact ZjL e4 hx j
   ·intro q hq
    rcases XZ hq with hq |rfl
    ·exact e5 q hq
    ·exact hkA
   ·refine⟨fun e he=>?_,?_⟩
    ·rw[Zee]at he
     have hm:e.born∈(arr.toList.modify j fun e=>{ e with key:=vk,val:=vx }).map (·.born):=XG.2 ⟨e,he,rfl⟩
     rw[Zhm (fun x:MapEntry=>x.born) (fun e:MapEntry=>{ e with key:=vk,val:=vx }) (fun _=>rfl)]at hm
     obtain⟨e',he',hb'⟩:=XG.1 hm
     rw[<-hb'];exact e6 e' he'
    ·rw[Zee,Zhm (fun x:MapEntry=>x.born) (fun e:MapEntry=>{ e with key:=vk,val:=vx }) (fun _=>rfl)]
     exact e7
 ·rename_i hf
  simp only[Xa,Xc]at h
  obtain⟨rfl,rfl,rfl⟩:=h
  rcases Zeg hd' hk es arr.toList 0 _ e3 e4 hf with⟨_,h2⟩ |⟨j',y',e,p,h1,_⟩
  ·have hr:=ZbV (P:=P) (w:=w) hdk h2
   refine⟨rfl,_,_,?_,Bmap.le.refl β,ZkX R hs hb0 (arr':=arr.push { key:=vk,val:=vx,born:=clk }) (clk':=clk+1) ?_ ?_ ?_ ?_ hlt⟩
   ·simp only[Instr.mapUpdate,run_underlying ht,ZbP hdk hd,hg,hr,Sem.run_bind,Result.andThen_ok,Zec e2]
   ·rw[Wn,XH,XH]
    exact Zcj e3 (by simp only[Xn,Xo,VRs];exact⟨_,_,rfl,hk,rfl⟩)
   ·rw[Wn,XH,XH]
    exact Zcj e4 (by simp only[Xn,Xo,VRs];exact⟨_,_,rfl,hx,rfl⟩)
   ·intro q hq
    rcases Xs.1 hq with hq |hq
    ·exact e5 q hq
    ·rw[XM]at hq;subst hq;exact hkA
   ·refine⟨fun e he=>?_,?_⟩
    ·rw[Wn]at he
     rcases Xs.1 he with he |he
     ·have:=e6 e he;omega
     ·rw[XM]at he;subst he;exact XaF clk
    ·rw[Wn,XH,Xak]
     refine⟨e7,by simp,?_⟩
     intro a ha b hb'
     simp only[Xn,Xo,XM]at hb'
     subst hb'
     obtain⟨e',he',rfl⟩:=XG.1 ha
     have:=e6 e' he'
     omega
  ·cases h1
 ·cases h
theorem ZER(R:Rel base w0 I0 I β σ w){t kt et:TypeId}(ht:P.underlying t=some (.map kt et)){d:TypeDesc}(hdk:P.underlying kt=some d){kc:Nat}(hd:Za5 d=some kc){m k v:AVal}{vm vk:Value}{c:Cls}(ts:List TypeId)(ty:TypeId)(hm:VR I β m vm)(hk:VR I β k vk)(hng:∀ t,m=.map t->∀ w es,σ[t]?≠some (.gmap w es))
  (h:ZgU σ kc m k=some (v,σ',c)):∃ w',(Builtin.delete_ (t::ts).toArray ty #[vm,vk]).run P w=.ok (.tuple #[]) w'/\v=.tup []/\Rel base w0 I0 I β σ' w':=by
 unfold ZgU at h
 split at h
 case isFalse=>cases h
 rename_i hkc
 have hd':Za5 d=some (Zak k):=by rw[hd,hkc]
 split at h
 ·simp only[Xa,Xc]at h
  obtain⟨rfl,rfl,rfl⟩:=h
  simp only[VR]at hm
  subst hm
  exact⟨w,by simp[Builtin.delete_,run_underlying ht,ZbP hdk hd],rfl,R⟩
 ·rename_i t' j nx
  simp only[VR]at hm
  obtain⟨bb,kk,cc,hb,rfl⟩:=hm
  split at h
  case h_2=>cases h
  rename_i ns hs
  split at h
  case h_2=>cases h
  rename_i nd hj
  have hAr:ArenaW I β w t' ns:=R.blk _ _ hs
  have hA:NodeW I β w t' j nd ns.length:=hAr.1 j nd hj
  obtain⟨b',k',c',arr,clk,e1,e2,e3,e4,e5,e6⟩:=hA.mapBlk nx
  rw[hb]at e1
  simp only[Xa,BI.mk.injEq]at e1
  obtain⟨rfl,rfl,rfl⟩:=e1
  split at h
  ·rename_i hnx
   subst hnx
   split at h
   case h_2=>cases h
   rename_i l hl
   simp only[Xa,Xc]at h
   obtain⟨rfl,rfl,rfl⟩:=h
   obtain⟨r,hr1,hr2⟩:=Zrm (fun n=>AVal.nref t' n 0) 0 hl
   obtain⟨arr',clk',hu1,hu2⟩:=ZzA (P:=P) (w:=w) ht hdk hd hkc hk ts ty e2 ⟨e3,e4,e5,e6⟩ hr1
   refine⟨_,hu1,rfl,R.relay hs hj hb (nd':=(nd.1,l)) ?_ ?_ rfl⟩
   ·rw[show Zcm t' (nd.1,l) true=l.map fun p=>(p.1,AVal.nref t' p.2 0)from rfl,<-Zys (fun n=>AVal.nref t' n 0) hr2]
    exact hu2
   ·obtain⟨_,_,_,_,_,_,_,_,_,_,_,_,_,_,_,_,_,_,_,_,_,_,_,d4,_⟩:=hA
    simp only[Zfi,if_true]
    intro p hp
    rcases hr2 with⟨_,rfl⟩ |⟨i,y,_,rfl⟩
    ·exact(d4 p hp).2
    ·exact(d4 p (Wu hp)).2
  ·rename_i hnx
   have hnx:nx=false:=by simpa using hnx
   subst hnx
   split at h
   case h_2=>cases h
   rename_i l hl
   simp only[Xa,Xc]at h
   obtain⟨rfl,rfl,rfl⟩:=h
   obtain⟨r,hr1,hr2⟩:=Zrm (fun v=>v) 0 hl
   have hid:∀ es:List (AVal×AVal),(es.map fun p=>(p.1,p.2))=es:=fun es=>by simp
   rw[hid]at hr1
   obtain⟨arr',clk',hu1,hu2⟩:=ZzA (P:=P) (w:=w) ht hdk hd hkc hk ts ty e2 ⟨e3,e4,e5,e6⟩ hr1
   refine⟨_,hu1,rfl,R.relay hs hj hb (nd':=(l,nd.2)) ?_ ?_ rfl⟩
   ·have:=Zys (fun v=>v) hr2
    rw[hid,hid]at this
    show MapW I β l arr' clk'
    rw[<-this]
    exact hu2
   ·obtain⟨_,_,_,_,_,_,_,_,_,_,_,_,_,_,_,_,_,_,_,⟨_,_,_,b4,_⟩,_⟩:=hA
    simp only[Zfi,Xl,if_false]
    intro p hp
    rcases hr2 with⟨_,rfl⟩ |⟨i,y,_,rfl⟩
    ·exact(b4 p hp).2
    ·exact(b4 p (Wu hp)).2
 ·rename_i b
  simp only[VR]at hm
  obtain⟨bb,kk,cc,hb,rfl⟩:=hm
  split at h
  case h_2=>rename_i hs;exact absurd hs (hng _ rfl _ _)
  case h_3=>cases h
  rename_i es hs
  obtain⟨b',k',c',arr,clk,e1,e2,e3,e4,e5,e6,e7⟩:=R.blk _ _ hs
  have hb0:=hb
  rw[hb]at e1
  simp only[Xa,BI.mk.injEq]at e1
  obtain⟨rfl,rfl,rfl⟩:=e1
  have hg:=Zdr (P:=P) e2
  have hlt:bb<w.heap.size:=(Xz.1 e2).1
  split at h
  ·rename_i j y hf
   simp only[Xa,Xc]at h
   obtain⟨rfl,rfl,rfl⟩:=h
   rcases Zeg hd' hk es arr.toList 0 _ e3 e4 hf with⟨h1,_⟩ |⟨j',y',e,p,h1,h2,h3,h4,_⟩
   ·cases h1
   ·simp only[Xv]at h1 h2
    injection h1 with h1
    injection h1 with h1 h1'
    subst h1 h1'
    have hr:=ZbV (P:=P) (w:=w) hdk h2
    have el:(arr.eraseIdxIfInBounds j).toList=arr.toList.eraseIdx j:=by simp
    refine⟨_,?_,rfl,ZkX R hs hb0 (arr':=arr.eraseIdxIfInBounds j) (clk':=clk) ?_ ?_ ?_ ?_ hlt⟩
    ·simp[Builtin.delete_,run_underlying ht,ZbP hdk hd,hg,hr,Zec e2]
    ·rw[el,Zdd,Zdd];exact Zih j e3
    ·rw[el,Zdd,Zdd];exact Zih j e4
    ·exact fun q hq=>e5 q (Wu hq)
    ·refine⟨fun e he=>?_,?_⟩
     ·rw[el]at he;exact e6 e (Wu he)
     ·rw[el,Zdd];exact e7.sublist (XaX _ _)
  ·rename_i hf
   simp only[Xa,Xc]at h
   obtain⟨rfl,rfl,rfl⟩:=h
   rcases Zeg hd' hk es arr.toList 0 _ e3 e4 hf with⟨_,h2⟩ |⟨j',y',e,p,h1,_⟩
   ·have hr:=ZbV (P:=P) (w:=w) hdk h2
    refine⟨_,?_,rfl,ZkX R hs hb0 (arr':=arr) (clk':=clk) e3 e4 e5 ⟨e6,e7⟩ hlt⟩
    simp[Builtin.delete_,run_underlying ht,ZbP hdk hd,hg,hr,Zec e2]
   ·cases h1
  ·cases h
 ·cases h
theorem ZEJ(R:Rel base w0 I0 I β σ w){t kt et:TypeId}(ht:P.underlying t=some (.map kt et)){m v:AVal}{vm:Value}{c:Cls}(ty:TypeId)(hm:VR I β m vm)(h:Zfq σ m=some (v,σ',c)):σ'=σ/\∃ u,(Builtin.len_ #[t] ty #[vm]).run P w=.ok u w/\VR I β v u:=by
 unfold Zfq at h
 split at h
 ·simp only[Xa,Xc]at h
  obtain⟨rfl,rfl,rfl⟩:=h
  simp only[VR]at hm
  subst hm
  exact⟨rfl,goInt 0,by simp[Builtin.len_,run_underlying ht],by simp[VR,goInt]⟩
 ·rename_i t' j nx
  simp only[VR]at hm
  obtain⟨bb,kk,cc,hb,rfl⟩:=hm
  split at h
  case h_2=>cases h
  rename_i ns hns
  split at h
  case h_2=>cases h
  rename_i nd hj
  obtain⟨b',k',c',arr,clk,e1,e2,e3,e4,e5,e6⟩:=((R.nodes hns).1 j nd hj).mapBlk nx
  rw[hb]at e1
  simp only[Xa,BI.mk.injEq]at e1
  obtain⟨rfl,rfl,rfl⟩:=e1
  simp only[Xa,Xc]at h
  obtain⟨rfl,rfl,rfl⟩:=h
  have hg:=Zdr (P:=P) e2
  have hl:(Zcm t' nd nx).length=arr.size:=by simpa using Zae e3
  refine⟨rfl,goInt arr.size,by simp[Builtin.len_,run_underlying ht,hg],?_⟩
  cases nx<;>simp[Zcm]at hl<;>simp[VR,goInt,hl]
 ·rename_i b
  simp only[VR]at hm
  obtain⟨bb,kk,cc,hb,rfl⟩:=hm
  split at h
  ·rename_i es hs
   simp only[Xa,Xc]at h
   obtain⟨rfl,rfl,rfl⟩:=h
   obtain⟨b',k',c',arr,clk,e1,e2,e3,_⟩:=R.blk _ _ hs
   rw[hb]at e1
   simp only[Xa,BI.mk.injEq]at e1
   obtain⟨rfl,rfl,rfl⟩:=e1
   have hg:=Zdr (P:=P) e2
   have hl:es.length=arr.size:=by simpa using Zae e3
   exact⟨rfl,goInt arr.size,by simp[Builtin.len_,run_underlying ht,hg],by simp[VR,goInt,hl]⟩
  ·rename_i es hs
   simp only[Xa,Xc]at h
   obtain⟨rfl,rfl,rfl⟩:=h
   obtain⟨b',k',c',arr,clk,e1,e2,e3,_⟩:=R.blk _ _ hs
   rw[hb]at e1
   simp only[Xa,BI.mk.injEq]at e1
   obtain⟨rfl,rfl,rfl⟩:=e1
   have hg:=Zdr (P:=P) e2
   have hl:es.length=arr.size:=by simpa using Zae e3
   exact⟨rfl,goInt arr.size,by simp[Builtin.len_,run_underlying ht,hg],by simp[VR,goInt,hl]⟩
  ·cases h
 ·cases h
theorem ZFb(R:Rel base w0 I0 I β σ w)(hb:KLt base w0)(t:TypeId){sq:Nat}(hs:σ[sq]?=some .free) :
  ∃ u w',(Instr.makeMap t none).run P w=.ok u w'/\Post base w0 I0 I β (.map sq) (σ.set sq (.map [])) u w':=by
 obtain⟨R',hle⟩:=R.newObj hb hs (.map #[] 0) (.map []) 1 1 (by simp[Zo,Bmap.put_same]) rfl (by simp)
  ⟨_,_,_,#[],0,Bmap.put_same β sq 0 _,by simp,by simp[VRs],by simp[VRs],by simp,by simp[Zel]⟩
 refine⟨.map (some w.heap.size),_,run_makeMap t w,Post.mk (Imm.le.refl I) hle R' ?_⟩
 simp only[VR]
 exact⟨_,_,_,Bmap.put_same β sq 0 _,rfl⟩
end
end
section
open Go.RowKit
section
variable {base:Nat->Prop}{w0 w:World}{I0 I:Imm}{β:Bmap}{σ:Za}
theorem Ztz{k:Nat}:∀ {xs:List AVal},(∀ x∈xs,x.cells.length=k)->(xs.flatMap AVal.cells).length=xs.length*k
 | [],_=>by simp
 |x::xs,h=>by
  rw[X2,Xk,h x (by simp),Ztz (fun y hy=>h y (by simp[hy])),Xm,Nat.succ_mul,Xaw]
theorem ZSH{k s:Nat}{v:Value}{xs:List AVal}(hk:0<k)(h:GEnt I β w k v (.inl xs))(hs:β s 0=none):∃ bi:BI,(∀ b,bi.b=some b↔Zau v=some b)/\BR I (β.put s 0 bi) w s (.row 0 k xs)/\VR I (β.put s 0 bi) (.sl s 0 0 xs.length) v:=by
 obtain⟨t1,t2,vs,⟨A,n,c,rfl,h1,h2,h3,h4⟩,t4⟩:=h
 have hn:xs.length=n:=by
  have:=Zae t4
  rw[Ztz t2,h1]at this
  exact Nat.eq_of_mul_eq_mul_right hk this
 subst hn
 by_cases hc:c=0
 ·subst hc
  have h0:xs.length=0:=by omega
  refine⟨⟨none,k,0⟩,fun b=>by simp[Zau],⟨_,Bmap.put_same β s 0 _,rfl,hk,by simp,by simp;exact List.length_eq_zero_iff.1 h0,t1,t2,Xp ⟨rfl,rfl⟩⟩,?_⟩
  simp only[VR]
  exact⟨_,Bmap.put_same β s 0 _,by simp[h0],by simp,Xt (Xp ⟨rfl,rfl,A,by rw[h0]⟩)⟩
 ·rcases h4 with h4 |⟨g,cur,e,rfl,hg,hs',ht⟩
  ·exact absurd h4 hc
  refine⟨⟨some g,k,c⟩,fun b=>by simp[Zau,hc],⟨_,Bmap.put_same β s 0 _,rfl,hk,h3,h2,t1,t2,Xt ⟨g,cur,e,rfl,hg,hs',?_⟩⟩,?_⟩
  ·rw[ht]
   exact VRs.mono (Imm.le.refl I) (Bmap.put_le hs) _ _ t4
  ·simp only[VR]
   exact⟨_,Bmap.put_same β s 0 _,by simpa using h2,h3,Xp ⟨g,rfl,by simp⟩⟩
theorem ZAa {w : World} {kb j : Nat} {es : List (AVal × (List AVal ⊕ AVal))} {q y : AVal} {xs : List AVal} {e : MapEntry} (hj : es[j]? = some (q, .inl xs)) (he : (Zdi w kb)[j]? = some e) :
    (ZaD w kb (es.set j (q, .inr y))).Sublist (ZaD w kb es) /\ ((ZaD w kb es).Nodup -> ∀ g, Zau e.val = some g -> g ∉ ZaD w kb (es.set j (q, .inr y))) := by
  unfold ZaD
  generalize Zdi w kb = l at *
  have key : ∀ (es : List (AVal × (List AVal ⊕ AVal))) (l : List MapEntry) (j : Nat), es[j]? = some (q, .inl xs) -> l[j]? = some e ->
      ((((es.set j (q, .inr y)).zip l).filterMap fun p => match p.1.2 with | .inl _ => Zau p.2.val | .inr _ => none).Sublist ((es.zip l).filterMap fun p => match p.1.2 with | .inl _ => Zau p.2.val | .inr _ => none)) /\
      (((es.zip l).filterMap fun p => match p.1.2 with | .inl _ => Zau p.2.val | .inr _ => none).Nodup -> ∀ g, Zau e.val = some g -> g ∈ ((es.zip l).filterMap fun p => match p.1.2 with | .inl _ => Zau p.2.val | .inr _ => none) /\ g ∉ (((es.set j (q, .inr y)).zip l).filterMap fun p => match p.1.2 with | .inl _ => Zau p.2.val | .inr _ => none)) := by
    intro es
    induction es with
    | nil => intro l j h; simp at h
    | cons x es ih =>
      intro l j h h'
      cases l with
      | nil => simp at h'
      | cons a l =>
        cases j with
        | zero =>
          simp only [XE, Xa] at h h'
          subst h h'
          simp only [XaL, Wj, Wz]
          cases hc : Zau a.val with
          | none => exact ⟨XaA _, fun _ g hg => by cases hg⟩
          | some g' =>
            refine ⟨XaR _ _, fun hn g hg => ?_⟩
            injection hg with hg; subst hg
            exact ⟨by simp, (WA.1 hn).1⟩
        | succ j =>
          simp only [XP] at h h'
          obtain ⟨i1, i2⟩ := ih l j h h'
          simp only [XaM, Wj, Wz]
          generalize (match x.2 with | .inl _ => Zau a.val | .inr _ => none : Option Nat) = o
          cases o with
          | none => exact ⟨i1, i2⟩
          | some g' =>
            refine ⟨i1.cons_cons _, fun hn g hg => ?_⟩
            obtain ⟨n1, n2⟩ := WA.1 hn
            obtain ⟨m1, m2⟩ := i2 n2 g hg
            refine ⟨Wr _ m1, ?_⟩
            rw [XI]
            rintro (rfl | h)
            . exact n1 m1
            . exact m2 h
  obtain ⟨k1, k2⟩ := key es l j hj he
  refine ⟨k1.cons_cons _, fun hn g hg => ?_⟩
  obtain ⟨n1, n2⟩ := WA.1 hn
  obtain ⟨m1, m2⟩ := k2 n2 g hg
  rw [XI]
  rintro (rfl | h)
  . exact n1 m1
  . exact m2 h
theorem Rel.take_row(R:Rel base w0 I0 I β σ w){t s k j:Nat}{es:List (AVal×(List AVal ⊕ AVal))}{q:AVal}{xs:List AVal}(ht:σ[t]?=some (.gmap k es))(hj:es[j]?=some (q,.inl xs))(hs:σ[s]?=some .free) :
  ∃ (bi:BI) (kb clk:Nat) (arr:Array MapEntry) (e:MapEntry),(β t 0).bind (·.b)=some kb/\w.heap[kb]?=some (.map arr clk)/\arr.toList[j]?=some e/\VR I (β.put s 0 bi) (.sl s 0 0 xs.length) e.val/\β.le (β.put s 0 bi) /\
   Rel base w0 I0 I (β.put s 0 bi) ((σ.set s (.row 0 k xs)).set t (.gmap k (es.set j (q,.inr (.sl s 0 0 xs.length))))) w:=by
 obtain⟨kb,k',c',hb,hG⟩:=R.blk t _ ht
 obtain⟨g0,g1,arr,clk,g2,g3,g4,g5,g6⟩:=hG
 have hlen:es.length=arr.toList.length:=by simpa using Zae g3
 have hjl:j<arr.toList.length:=by have:=(Xh.1 hj).1;omega
 obtain⟨e,he⟩:∃ e,arr.toList[j]?=some e:=⟨_,XB hjl⟩
 have hfree:=R.free s 0 hs
 obtain⟨bi,hbi,hrow,hval⟩:=ZSH (s:=s) g1 (g6 j _ e hj he) hfree
 have hle:β.le (β.put s 0 bi):=Bmap.put_le hfree
 have hne:s≠t:=by rintro rfl;rw[hs]at ht;cases ht
 have htl:t<σ.length:=(Xh.1 ht).1
 have hsl:s<σ.length:=(Xh.1 hs).1
 obtain⟨b1,b2⟩:=ZAa (w:=w) (kb:=kb) (q:=q) (y:=.sl s 0 0 xs.length) hj (by rw[ZiK g2];exact he)
 have hbt:(β.put s 0 bi) t 0=some ⟨some kb,k',c'⟩:=hle _ _ _ hb
 refine⟨bi,kb,clk,arr,e,by simp[hb],g2,he,hval,hle,?_⟩
 have look:∀ u x,((σ.set s (.row 0 k xs)).set t (.gmap k (es.set j (q,.inr (.sl s 0 0 xs.length)))))[u]?=some x->(u=t/\x=.gmap k (es.set j (q,.inr (.sl s 0 0 xs.length))))\/(u=s/\x=.row 0 k xs)\/(u≠t/\u≠s/\σ[u]?=some x):=by
  intro u x h
  rcases Zg8 (by simpa using htl) h with⟨rfl,rfl⟩ |⟨h1,h⟩
  ·exact Xp ⟨rfl,rfl⟩
  ·rcases Zg8 hsl h with⟨rfl,rfl⟩ |⟨h2,h⟩
   ·exact Xt (Xp ⟨rfl,rfl⟩)
   ·exact Xt (Xt ⟨h1,h2,h⟩)
 have ownT:∀ b,b∈ZaD w kb es->Zo w β t (.gmap k es) b:=fun b hm=>⟨kb,by simp[hb],hm⟩
 have own1:∀ b,Zo w (β.put s 0 bi) t (.gmap k (es.set j (q,.inr (.sl s 0 0 xs.length)))) b->b∈ZaD w kb (es.set j (q,.inr (.sl s 0 0 xs.length))):=by
  rintro b ⟨kb',h1,h2⟩
  rw[hbt]at h1
  simp only[XR,Xa]at h1
  subst h1;exact h2
 have own2:∀ b,Zo w (β.put s 0 bi) s (.row 0 k xs) b->Zau e.val=some b:=by
  intro b h
  simp only[Zo,Bmap.put_same,XR]at h
  exact(hbi b).1 h
 have mem2:∀ b,Zau e.val=some b->b∈ZaD w kb es:=fun b h=>ZzB hj (by rw[ZiK g2];exact he) h
 have own0:∀ u x b,((σ.set s (.row 0 k xs)).set t (.gmap k (es.set j (q,.inr (.sl s 0 0 xs.length)))))[u]?=some x->Zo w (β.put s 0 bi) u x b->∃ y,(u≠s->σ[u]?=some y/\Zo w β u y b)/\(u=s->Zo w β t (.gmap k es) b):=by
  intro u x b hx ho
  rcases look u x hx with⟨rfl,rfl⟩ |⟨rfl,rfl⟩ |⟨h1,h2,hx'⟩
  ·exact⟨_,fun _=>⟨ht,ownT b (b1.subset (own1 b ho))⟩,fun h=>absurd h.symm hne⟩
  ·exact⟨.free,fun h=>absurd rfl h,fun _=>ownT b (mem2 b (own2 b ho))⟩
  ·exact⟨x,fun _=>⟨hx',by rwa [(R.blk u x hx').owns_eq hle]at ho⟩,fun h=>absurd h h2⟩
 refine⟨R.below,R.old,R.imm,?_,?_,?_,?_,?_,?_,R.glob,?_⟩
 ·intro u x hx
  rcases look u x hx with⟨rfl,rfl⟩ |⟨rfl,rfl⟩ |⟨h1,h2,hx⟩
  ·refine⟨kb,k',c',hbt,g0.sublist b1,g1,arr,clk,g2,?_,?_,g5,?_⟩
   ·have hm:(es.set j (q,.inr (.sl s 0 0 xs.length))).map (·.1)=es.map (·.1):=by
     apply Wt
     intro i
     rw[XX,XX,Xr]
     split
     ·rename_i e';subst e'
      rw[hj,if_pos (Xh.1 hj).1];rfl
     ·rfl
    rw[hm];exact VRs.mono (Imm.le.refl I) hle _ _ g3
   ·intro p hp
    rcases XZ hp with hp |rfl
    ·exact g4 p hp
    ·exact g4 (q,.inl xs) (Xx hj)
   ·intro i p e' hp he'
    rw[Xr]at hp
    split at hp
    ·rename_i e2;subst e2
     split at hp
     ·injection hp with hp;subst hp
      rw[he]at he';injection he' with he';subst he'
      exact hval
     ·cases hp
    ·have:=g6 i p e' hp he'
     obtain⟨x,q'⟩:=p
     cases q' with
     |inr y=>exact VR.mono (Imm.le.refl I) hle _ _ this
     |inl ys =>
      obtain⟨t1,t2,vs,t3,t4⟩:=this
      exact⟨t1,t2,vs,t3,VRs.mono (Imm.le.refl I) hle _ _ t4⟩
  ·exact hrow
  ·exact(R.blk u x hx).keep (Imm.le.refl I) hle (fun _ _=>rfl) (fun _ _=>rfl)
 ·intro u x b hx ho
  obtain⟨y,h1,h2⟩:=own0 u x b hx ho
  by_cases hu:u=s
  ·exact R.own t _ b ht (h2 hu)
  ·exact R.own u y b (h1 hu).1 (h1 hu).2
 ·intro u x u' x' b hx hx' ho ho'
  obtain⟨y,h1,h2⟩:=own0 u x b hx ho
  obtain⟨y',h1',h2'⟩:=own0 u' x' b hx' ho'
  by_cases hu:u=s<;>by_cases hu':u'=s
  ·rw[hu,hu']
  ·exfalso
   have e1:=R.apart _ _ _ _ b ht (h1' hu').1 (h2 hu) (h1' hu').2
   subst e1 hu
   rcases look _ _ hx' with⟨_,rfl⟩ |⟨h,_⟩ |⟨h,_⟩
   ·rcases look _ _ hx with⟨h,_⟩ |⟨_,rfl⟩ |⟨_,h,_⟩
    ·exact hne h
    ·exact b2 g0 b (own2 b ho) (own1 b ho')
    ·exact h rfl
   ·exact hu' h
   ·exact h rfl
  ·exfalso
   have e1:=R.apart _ _ _ _ b ht (h1 hu).1 (h2' hu') (h1 hu).2
   subst e1 hu'
   rcases look _ _ hx with⟨_,rfl⟩ |⟨h,_⟩ |⟨h,_⟩
   ·rcases look _ _ hx' with⟨h,_⟩ |⟨_,rfl⟩ |⟨_,h,_⟩
    ·exact hne h
    ·exact b2 g0 b (own2 b ho') (own1 b ho)
    ·exact h rfl
   ·exact hu h
   ·exact h rfl
  ·exact R.apart u y u' y' b (h1 hu).1 (h1' hu').1 (h1 hu).2 (h1' hu').2
 ·intro u g hu
  simp only[Ws]at hu
  rw[Bmap.put_ne (by omega)]
  exact R.fresh u g hu
 ·intro u g hx
  rcases look u _ hx with⟨_,h⟩ |⟨_,h⟩ |⟨_,h2,hx⟩
  ·cases h
  ·cases h
  ·rw[Bmap.put_ne h2];exact R.free u g hx
 ·intro u x g hx hg
  rcases look u _ hx with⟨rfl,rfl⟩ |⟨rfl,rfl⟩ |⟨_,h2,hx⟩
  ·rw[Bmap.put_ne (WV hne)];exact R.gen u _ g ht hg
  ·simp only[genB]at hg
   rw[Bmap.put_gen (by omega)];exact R.free u g hs
  ·rw[Bmap.put_ne h2];exact R.gen u x g hx hg
 ·intro u x b hx hsee
  rcases look u _ hx with⟨rfl,rfl⟩ |⟨rfl,rfl⟩ |⟨_,h2,hx⟩
  ·cases hsee
  ·cases hsee
  ·exact R.ro u x b hx (((R.blk u x hx).sees_at hle b).1 hsee)
end
end
section
open Go.RowKit
section
variable {base:Nat->Prop}{w0 w:World}{I0 I:Imm}{β:Bmap}{σ:Za}
def ZbQ(p:(AVal×(List AVal ⊕ AVal))×MapEntry):Option Nat:=match p.1.2 with
 | .inl _=>Zau p.2.val
 | .inr _=>none
theorem Zj0{kb:Nat}{es:List (AVal×(List AVal ⊕ AVal))}:ZaD w kb es=kb::(es.zip (Zdi w kb)).filterMap ZbQ:=rfl
theorem ZDR {kb j : Nat} {es : List (AVal × (List AVal ⊕ AVal))} {q y : AVal} {xs : List AVal} {e : MapEntry} (hj : es[j]? = some (q, .inr y)) (he : (Zdi w kb)[j]? = some e) (hn : (ZaD w kb es).Nodup) (hg : ∀ g, Zau e.val = some g -> g ∉ ZaD w kb es) :
    (ZaD w kb (es.set j (q, .inl xs))).Nodup /\ ∀ b ∈ ZaD w kb (es.set j (q, .inl xs)), b ∈ ZaD w kb es \/ Zau e.val = some b := by
  simp only [Zj0] at hn hg ⊢
  generalize Zdi w kb = l at *
  have key : ∀ (es : List (AVal × (List AVal ⊕ AVal))) (l : List MapEntry) (j : Nat), es[j]? = some (q, .inr y) -> l[j]? = some e -> ((es.zip l).filterMap ZbQ).Nodup -> (∀ g, Zau e.val = some g -> g ∉ (es.zip l).filterMap ZbQ) ->
      (((es.set j (q, .inl xs)).zip l).filterMap ZbQ).Nodup /\ ∀ b ∈ ((es.set j (q, .inl xs)).zip l).filterMap ZbQ, b ∈ (es.zip l).filterMap ZbQ \/ Zau e.val = some b := by
    intro es
    induction es with
    | nil => intro l j h; simp at h
    | cons x es ih =>
      intro l j h h' hn hg
      cases l with
      | nil => simp at h'
      | cons a l =>
        cases j with
        | zero =>
          simp only [XE, Xa] at h h'
          subst h h'
          have e1 : ZbQ ((q, XbA y), a) = none := rfl
          have e2 : ZbQ ((q, Sum.inl xs), a) = Zau a.val := rfl
          simp only [XaL, Wj, Wz, e1, e2] at hn hg ⊢
          cases hc : Zau a.val with
          | none => exact ⟨hn, fun b hb => Xp hb⟩
          | some g' =>
            refine ⟨WA.2 ⟨hg g' hc, hn⟩, fun b hb => ?_⟩
            rcases XI.1 hb with rfl | hb
            . exact Xt rfl
            . exact Xp hb
        | succ j =>
          simp only [XP] at h h'
          simp only [XaM, Wj, Wz] at hn hg ⊢
          generalize ZbQ (x, a) = o at *
          cases o with
          | none => exact ih l j h h' hn hg
          | some g' =>
            obtain ⟨n1, n2⟩ := WA.1 hn
            obtain ⟨i1, i2⟩ := ih l j h h' n2 (fun g hc hm => hg g hc (Wr _ hm))
            refine ⟨WA.2 ⟨fun hm => ?_, i1⟩, fun b hb => ?_⟩
            . rcases i2 g' hm with h1 | h1
              . exact n1 h1
              . exact hg g' h1 (by simp)
            . rcases XI.1 hb with rfl | hb
              . exact Xp (by simp)
              . rcases i2 b hb with h1 | h1
                . exact Xp (Wr _ h1)
                . exact Xt h1
  obtain ⟨n1, n2⟩ := WA.1 hn
  obtain ⟨k1, k2⟩ := key es l j hj he n2 (fun g hc hm => hg g hc (Wr _ hm))
  refine ⟨WA.2 ⟨fun hm => ?_, k1⟩, fun b hb => ?_⟩
  . rcases k2 kb hm with h1 | h1
    . exact n1 h1
    . exact hg kb h1 (by simp)
  . rcases XI.1 hb with rfl | hb
    . exact Xp (by simp)
    . rcases k2 b hb with h1 | h1
      . exact Xp (Wr _ h1)
      . exact Xt h1
theorem Rel.give_row(R:Rel base w0 I0 I β σ w){t s k j g n:Nat}{es:List (AVal×(List AVal ⊕ AVal))}{q:AVal}{xs:List AVal}(ht:σ[t]?=some (.gmap k es))(hj:es[j]?=some (q,.inr (.sl s g 0 n)))(hs:σ[s]?=some (.row g k xs))(hnx:n<=xs.length) :
  Rel base w0 I0 I β ((σ.set s (.frow g k [])).set t (.gmap k (es.set j (q,.inl (xs.take n))))) w:=by
 obtain⟨kb,k',c',hb,hG⟩:=R.blk t _ ht
 obtain⟨g0,g1,arr,clk,g2,g3,g4,g5,g6⟩:=hG
 obtain⟨bi,r1,r2,r3,r4,r5,r6,r7,r8⟩:=R.blk s _ hs
 have hlen:es.length=arr.toList.length:=by simpa using Zae g3
 have hjl:j<arr.toList.length:=by have:=(Xh.1 hj).1;omega
 obtain⟨e,he⟩:∃ e,arr.toList[j]?=some e:=⟨_,XB hjl⟩
 have hv:VR I β (.sl s g 0 n) e.val:=g6 j _ e hj he
 have hne:s≠t:=by rintro rfl;rw[hs]at ht;cases ht
 have htl:t<σ.length:=(Xh.1 ht).1
 have hsl:s<σ.length:=(Xh.1 hs).1
 have hent:GEnt I β w k e.val (.inl (xs.take n))/\∀ b,Zau e.val=some b->bi.b=some b:=by
  simp only[VR]at hv
  obtain⟨bi',v1,v2,v3,v4⟩:=hv
  rw[r1]at v1;injection v1 with v1;subst v1
  rcases v4 with⟨b,hbb,hvv⟩ |⟨hbn,hc0,A,hvv⟩ |⟨h0,_⟩
  ·rcases r8 with⟨h8,_⟩ |⟨b',us,ty,h8,h9,h10,h11⟩
   ·rw[h8]at hbb;cases hbb
   ·rw[h8]at hbb;injection hbb with hbb;subst hbb
    rw[hvv]
    have h12:VRs I β ((xs.take n).flatMap AVal.cells) (us.toList.take (n*k)):=by
     have:=Zff h11 (n*k)
     rwa [Xab,WW (Wd k hnx),Zh5 r7]at this
    have r7':∀ x∈xs.take n,x.cells.length=k:=fun x hx=>r7 x (WO hx)
    refine⟨⟨Zhx r6 n,r7',_,⟨some ⟨b',0,none⟩,n,bi.cap,by simp,?_,Nat.le_trans hnx r5,r4,Xt ⟨b',us,ty,rfl,h9,h10,rfl⟩⟩,h12⟩,fun b hcap=>?_⟩
    ·have:=Zae h12
     rw[<-this,Ztz r7',X0,WW hnx]
    ·simp only[Zau,Nat.sub_zero]at hcap
     split at hcap
     ·cases hcap
     ·simp only[XT,Xa]at hcap
      rw[h8,hcap]
  ·have hx0:xs=[]:=List.length_eq_zero_iff.1 (by omega)
   subst hx0
   rw[hvv,List.take_nil]
   exact⟨⟨by simp[ZW],by simp,[],⟨A,0,0,rfl,by simp,XD _,by simp,Xp rfl⟩,by simp[VRs]⟩,fun b hcap=>by simp[Zau]at hcap⟩
  ·omega
 have hgo:∀ b,Zau e.val=some b->Zo w β s (.row g k xs) b:=fun b hc=>by
  simp only[Zo,r1,XR];exact hent.2 b hc
 have ownT:∀ b,b∈ZaD w kb es->Zo w β t (.gmap k es) b:=fun b hm=>⟨kb,by simp[hb],hm⟩
 obtain⟨b1,b2⟩:=ZDR (w:=w) (kb:=kb) (q:=q) (xs:=xs.take n) hj (by rw[ZiK g2];exact he) g0 (fun b hc hm=>hne (R.apart s _ t _ b hs ht (hgo b hc) (ownT b hm)))
 have look:∀ u x,((σ.set s (.frow g k [])).set t (.gmap k (es.set j (q,.inl (xs.take n)))))[u]?=some x->(u=t/\x=.gmap k (es.set j (q,.inl (xs.take n))))\/(u=s/\x=.frow g k [])\/(u≠t/\u≠s/\σ[u]?=some x):=by
  intro u x h
  rcases Zg8 (by simpa using htl) h with⟨rfl,rfl⟩ |⟨h1,h⟩
  ·exact Xp ⟨rfl,rfl⟩
  ·rcases Zg8 hsl h with⟨rfl,rfl⟩ |⟨h2,h⟩
   ·exact Xt (Xp ⟨rfl,rfl⟩)
   ·exact Xt (Xt ⟨h1,h2,h⟩)
 have own0:∀ u x b,((σ.set s (.frow g k [])).set t (.gmap k (es.set j (q,.inl (xs.take n)))))[u]?=some x->Zo w β u x b->∃ u' y,σ[u']?=some y/\Zo w β u' y b/\(u'=u\/(u'=s/\u=t))/\u≠s:=by
  intro u x b hx ho
  rcases look u x hx with⟨rfl,rfl⟩ |⟨rfl,rfl⟩ |⟨h1,h2,hx'⟩
  ·obtain⟨kb',h1,h2⟩:=ho
   rw[hb]at h1
   simp only[XR,Xa]at h1
   subst h1
   rcases b2 b h2 with h3 |h3
   ·exact⟨u,_,ht,ownT b h3,Xp rfl,WV hne⟩
   ·exact⟨s,_,hs,hgo b h3,Xt ⟨rfl,rfl⟩,WV hne⟩
  ·cases ho
  ·exact⟨u,x,hx',ho,Xp rfl,h2⟩
 refine⟨R.below,R.old,R.imm,?_,?_,?_,fun u g hu=>R.fresh u g (by simpa using hu),?_,?_,R.glob,?_⟩
 ·intro u x hx
  rcases look u x hx with⟨rfl,rfl⟩ |⟨rfl,rfl⟩ |⟨h1,h2,hx⟩
  ·refine⟨kb,k',c',hb,b1,g1,arr,clk,g2,?_,?_,g5,?_⟩
   ·have hm:(es.set j (q,.inl (xs.take n))).map (·.1)=es.map (·.1):=by
     apply Wt
     intro i
     rw[XX,XX,Xr]
     split
     ·rename_i e';subst e'
      rw[hj,if_pos (Xh.1 hj).1];rfl
     ·rfl
    rw[hm];exact g3
   ·intro p hp
    rcases XZ hp with hp |rfl
    ·exact g4 p hp
    ·exact g4 (q,.inr (.sl s g 0 n)) (Xx hj)
   ·intro i p e' hp he'
    rw[Xr]at hp
    split at hp
    ·rename_i e2;subst e2
     split at hp
     ·injection hp with hp;subst hp
      rw[he]at he';injection he' with he';subst he'
      exact hent.1
     ·cases hp
    ·exact g6 i p e' hp he'
  ·exact⟨bi,r1,r2,r3,r4,by simp,by simp[ZW],Xp rfl⟩
  ·exact R.blk u x hx
 ·intro u x b hx ho
  obtain⟨u',y,h1,h2,_⟩:=own0 u x b hx ho
  exact R.own u' y b h1 h2
 ·intro u x u' x' b hx hx' ho ho'
  obtain⟨v,y,h1,h2,h3,h4⟩:=own0 u x b hx ho
  obtain⟨v',y',h1',h2',h3',h4'⟩:=own0 u' x' b hx' ho'
  have:=R.apart v y v' y' b h1 h1' h2 h2'
  subst this
  rcases h3 with rfl |⟨rfl,rfl⟩
  ·rcases h3' with h |⟨h,h'⟩
   ·exact h
   ·exact absurd h h4
  ·rcases h3' with h |⟨_,h'⟩
   ·exact absurd h.symm h4'
   ·exact h'.symm
 ·intro u g' hx
  rcases look u _ hx with⟨_,h⟩ |⟨_,h⟩ |⟨_,_,hx⟩
  ·cases h
  ·cases h
  ·exact R.free u g' hx
 ·intro u x g' hx hg
  rcases look u _ hx with⟨rfl,rfl⟩ |⟨rfl,rfl⟩ |⟨_,_,hx⟩
  ·exact R.gen u _ g' ht hg
  ·exact R.gen u _ g' hs hg
  ·exact R.gen u x g' hx hg
 ·intro u x b hx hsee
  rcases look u _ hx with⟨rfl,rfl⟩ |⟨rfl,rfl⟩ |⟨_,_,hx⟩
  ·cases hsee
  ·cases hsee
  ·exact R.ro u x b hx hsee
end
end
section
open Go.RowKit
section
variable {P:Program}{base:Nat->Prop}{w0 w w':World}{I0 I I':Imm}{β β':Bmap}{σ σ':Za}
theorem ZgY{d:TypeDesc}{x:AVal}{vx:Value}(hd:Za5 d=some (Zak x))(hx:VR I β x vx):∀ (es:List (AVal×(List AVal ⊕ AVal))) (arr:List MapEntry) (i:Nat) (r:Option (Nat×(List AVal ⊕ AVal))),VRs I β (es.map (·.1)) (arr.map (·.key))->Zeu x es i=some r ->
  (r=none/\Instr.findNow d vx arr i=some none) \/
  ∃ j y e q,r=some (i+j,y)/\Instr.findNow d vx arr i=some (some (i+j,e.val))/\arr[j]?=some e/\es[j]?=some (q,y)/\ZdJ x q=some true/\VR I β q e.key
 | [],arr,i,r,hk,h=>by
  unfold Zeu at h
  injection h with h
  subst h
  simp only[Xo,VRs,List.map_eq_nil_iff]at hk
  subst hk
  exact Xp ⟨rfl,by simp[Instr.findNow]⟩
 |(k,y)::es,arr,i,r,hk,h=>by
  unfold Zeu at h
  cases arr with
  |nil =>
   simp only[Xn,Xo,VRs]at hk
   obtain⟨_,_,hk,_⟩:=hk
   cases hk
  |cons e arr =>
  simp only[Xn,VRs]at hk
  obtain⟨_,_,ek,k1,k2⟩:=hk
  injection ek with ek1 ek2
  subst ek1 ek2
  split at h
  ·rename_i ha
   injection h with h
   subst h
   refine Xt ⟨0,y,e,k,rfl,?_,rfl,rfl,ha,k1⟩
   simp only[Instr.findNow,ZmR hd ha hx k1,Wg]
  ·rename_i ha
   have hn:=ZmR hd ha hx k1
   rcases ZgY hd hx es arr (i+1) r k2 h with⟨h1,h2⟩ |⟨j,y',e',q',h1,h2,h3,h4,h5⟩
   ·exact Xp ⟨h1,by simp only[Instr.findNow,hn];exact h2⟩
   ·refine Xt ⟨j+1,y',e',q',by rw[h1,Wf,Xaw 1 j],?_,by simpa using h3,by simpa using h4,h5⟩
    simp only[Instr.findNow,hn]
    rw[h2,Wf,Xaw 1 j]
  ·cases h
theorem ZOq(R:Rel base w0 I0 I β σ w){t kt et:TypeId}(ht:P.underlying t=some (.map kt et)){d:TypeDesc}(hdk:P.underlying kt=some d){kc:Nat}(hd:Za5 d=some kc){z:AVal}(hz:Zdk P et=some z){s:Nat}{m k v:AVal}{vm vk:Value}{c:Cls}(hm:VR I β m vm)(hk:VR I β k vk)(hs:σ[s]?=some .free)
  (h:Zgg σ s kc z m k=some (v,σ',c)):∃ u,(Instr.lookup t vm vk false).run P w=.ok u w/\Post base w0 I0 I β v σ' u w:=by
 obtain⟨vz,hvz,hzr⟩:=ZqR (P:=P) (w:=w) (I:=I) (β:=β) hz
 unfold Zgg at h
 split at h
 case isFalse=>cases h
 rename_i hkc
 have hd':Za5 d=some (Zak k):=by rw[hd,hkc]
 split at h
 case h_2=>cases h
 rename_i b
 simp only[VR]at hm
 obtain⟨bb,kk,cc,hb,rfl⟩:=hm
 split at h
 case h_2=>cases h
 rename_i wd es ht'
 obtain⟨kb,k',c',e1,hG⟩:=R.blk _ _ ht'
 rw[hb]at e1
 simp only[Xa,BI.mk.injEq]at e1
 obtain⟨rfl,rfl,rfl⟩:=e1
 obtain⟨g0,g1,arr,clk,g2,g3,g4,g5,g6⟩:=hG
 have hg:=Zdr (P:=P) g2
 split at h
 ·rename_i j xs hf
  simp only[Xa,Xc]at h
  obtain⟨rfl,rfl,rfl⟩:=h
  rcases ZgY hd' hk es arr.toList 0 _ g3 hf with⟨h1,_⟩ |⟨j',y',e,q,h1,h2,h3,h4,_⟩
  ·cases h1
  ·simp only[Xv,Xa,Xc]at h1
   obtain⟨rfl,rfl⟩:=h1
   have hr:=ZbV (P:=P) (w:=w) hdk h2
   obtain⟨bi,kb2,clk2,arr2,e2,t1,t2,t3,t4,t5,t6⟩:=R.take_row ht' h4 hs
   rw[hb]at t1
   simp only[XR,Xa]at t1
   subst t1
   rw[g2]at t2
   simp only[Xa,Obj.map.injEq]at t2
   obtain⟨rfl,rfl⟩:=t2
   rw[h3]at t3;injection t3 with t3;subst t3
   have hq:(es.getD j (k,.inl xs)).1=q:=by simp[Xi,h4]
   rw[hq]
   refine⟨e.val,?_,Post.mk (Imm.le.refl I) t5 t6 t4⟩
   simp[Instr.lookup,run_underlying ht,ZbP hdk hd,hg,hr]
 ·rename_i j y hf
  simp only[Xa,Xc]at h
  obtain⟨rfl,rfl,rfl⟩:=h
  rcases ZgY hd' hk es arr.toList 0 _ g3 hf with⟨h1,_⟩ |⟨j',y',e,q,h1,h2,h3,h4,_⟩
  ·cases h1
  ·simp only[Xv,Xa,Xc]at h1
   obtain⟨rfl,rfl⟩:=h1
   have hr:=ZbV (P:=P) (w:=w) hdk h2
   refine⟨e.val,?_,Post.here R (g6 _ _ e h4 h3)⟩
   simp[Instr.lookup,run_underlying ht,ZbP hdk hd,hg,hr]
 ·rename_i hf
  simp only[Xa,Xc]at h
  obtain⟨rfl,rfl,rfl⟩:=h
  rcases ZgY hd' hk es arr.toList 0 _ g3 hf with⟨_,h2⟩ |⟨j',y',e,q,h1,_⟩
  ·have hr:=ZbV (P:=P) (w:=w) hdk h2
   refine⟨vz,?_,Post.here R hzr⟩
   simp[Instr.lookup,run_underlying ht,ZbP hdk hd,hg,hr,hvz]
  ·cases h1
 ·cases h
end
end
section
open Go.RowKit
section
variable {P:Program}{base:Nat->Prop}{w0 w w':World}{I0 I I':Imm}{β β':Bmap}{σ σ':Za}
theorem ZDs (R : Rel base w0 I0 I β σ w) (hb : KLt base w0) (t : TypeId) {k : Nat} (hk : 0 < k) {sq : Nat} (hs : σ[sq]? = some .free) :
    ∃ u w', (Instr.makeMap t none).run P w = .ok u w' /\ Post base w0 I0 I β (.map sq) (σ.set sq (.gmap k [])) u w' := by
  have he : ∀ (w : World) (b : Nat), ZaD w b [] = [b] := fun w b => by simp [ZaD]
  obtain ⟨R', hle⟩ := R.newObj hb hs (.map #[] 0) (.gmap k []) 1 1 (by
      rintro b ⟨kb, h1, h2⟩
      rw [he] at h2
      simp only [Bmap.put_same, XR, Xa] at h1
      subst h1
      simpa using h2) rfl (by simp)
    ⟨_, _, _, Bmap.put_same β sq 0 _, by rw [he]; simp, hk, #[], 0, by simp, by simp [VRs], by simp, by simp [Zel], by simp⟩
  refine ⟨.map (some w.heap.size), _, run_makeMap t w, Post.mk (Imm.le.refl I) hle R' ?_⟩
  simp only [VR]
  exact ⟨_, _, _, Bmap.put_same β sq 0 _, rfl⟩
theorem Rel.regmap(R:Rel base w0 I0 I β σ w){t k kb:Nat}{es es':List (AVal×(List AVal ⊕ AVal))}(ht:σ[t]?=some (.gmap k es))(hbt:(β t 0).bind (·.b)=some kb){o:Obj}(hkm:kb∈ZaD w kb es)
  (hG:∃ b k' c,β t 0=some ⟨some b,k',c⟩/\GmapW I β { w with heap:=w.heap.setIfInBounds kb o } k b es') (hsub:∀ b∈ZaD { w with heap:=w.heap.setIfInBounds kb o } kb es',b∈ZaD w kb es) :
  Rel base w0 I0 I β (σ.set t (.gmap k es')) { w with heap:=w.heap.setIfInBounds kb o }:=by
 have hsl:t<σ.length:=(Xh.1 ht).1
 have ho:=R.own t _ kb ht ⟨kb,hbt,hkm⟩
 have hh:∀ b',b'≠kb->(w.heap.setIfInBounds kb o)[b']?=w.heap[b']?:=by
  intro b' hne
  rw[XN (fun e=>hne e.symm)]
 have hold:∀ b,Zo { w with heap:=w.heap.setIfInBounds kb o } β t (.gmap k es') b->Zo w β t (.gmap k es) b:=by
  rintro b ⟨kb',h1,h2⟩
  rw[hbt]at h1;injection h1 with h1;subst h1
  exact⟨kb,hbt,hsub b h2⟩
 refine R.upd (Imm.le.refl I) (Bmap.le.refl β) ⟨rfl,rfl,rfl,by simp,fun k hk=>hh k (by rintro rfl;exact ho.1 hk)⟩ (fun _ _ _=>rfl) ?_ t _ rfl hsl (fun _ _ _=>rfl) ?_ hG ?_ ?_ (by simp)
 ·intro b' o' u h
  have hne:b'≠kb:=by rintro rfl;rw[ho.2 o']at h;cases h
  rw[<-R.imm b' o' u h]
  simp only[World.cell?,hh b' hne]
 ·intro t' y b' hne hy hb'
  have hbb:b'≠kb:=by rintro rfl;exact hne (R.apart t' y t _ b' hy ht hb' ⟨_,hbt,hkm⟩)
  exact⟨hh b' hbb,(R.own t' y b' hy hb').2,fun e=>hne (R.apart t' y t _ b' hy ht hb' (hold b' e))⟩
 ·intro b' e
  exact R.own t _ b' ht (hold b' e)
 ·intro g hlt
  exact R.gen t _ g ht hlt
theorem Zuz{kb:Nat}{arr':Array MapEntry}{clk':Nat}(hlt:kb<w.heap.size):Zdi { w with heap:=w.heap.setIfInBounds kb (.map arr' clk') } kb=arr'.toList:=by
 unfold Zdi
 simp only[X7 hlt]
theorem ZnV{q y:AVal}{e:MapEntry}{v':MapEntry}:∀ (es:List (AVal×(List AVal ⊕ AVal))) (l:List MapEntry) (j:Nat),l[j]?=some e->(((es.set j (q,.inr y)).zip (l.set j v')).filterMap ZbQ).Sublist ((es.zip l).filterMap ZbQ)
 | [],l,j,h=>by simp
 |x::es,[],j,h=>by simp at h
 |x::es,a::l,0,h=>by
  have e1:ZbQ ((q,XbA y),v')=none:=rfl
  simp only[XaL,Wj,Wz,e1]
  cases ZbQ (x,a)with
  |none=>exact XaA _
  |some g=>exact XaR _ _
 |x::es,a::l,j+1,h=>by
  simp only[XP]at h
  simp only[XaM,Wj,Wz]
  cases ZbQ (x,a)with
  |none=>exact ZnV es l j h
  |some g=>exact(ZnV es l j h).cons_cons _
theorem ZwR{q y:AVal}{v':MapEntry}:∀ (es:List (AVal×(List AVal ⊕ AVal))) (l:List MapEntry),es.length=l.length->(((es++[(q,(XbA y:List AVal ⊕ AVal))]).zip (l++[v'])).filterMap ZbQ)=((es.zip l).filterMap ZbQ)
 | [],[],_=>rfl
 | [],_::_,h=>by simp at h
 |_::_,[],h=>by simp at h
 |x::es,a::l,h=>by
  simp only[List.cons_append,Wj,Wz]
  rw[ZwR es l (by simpa using h)]
theorem ZqX:∀ (es:List (AVal×(List AVal ⊕ AVal))) (l:List MapEntry) (j:Nat),(((es.eraseIdx j).zip (l.eraseIdx j)).filterMap ZbQ).Sublist ((es.zip l).filterMap ZbQ)
 | [],l,j=>by simp
 |x::es,[],j=>by simp
 |x::es,a::l,0=>by
  simp only[List.eraseIdx_cons_zero,Wj,Wz]
  cases ZbQ (x,a)with
  |none=>exact XaA _
  |some g=>exact XaR _ _
 |x::es,a::l,j+1=>by
  simp only[List.eraseIdx_cons_succ,Wj,Wz]
  cases ZbQ (x,a)with
  |none=>exact ZqX es l j
  |some g=>exact(ZqX es l j).cons_cons _
theorem GEnt.keep{k kb:Nat}{v:Value}{o:Obj}{p:List AVal ⊕ AVal}(h:GEnt I β w k v p)(hne:∀ xs,p=.inl xs->Zau v≠some kb):GEnt I β { w with heap:=w.heap.setIfInBounds kb o } k v p:=by
 cases p with
 |inr y=>exact h
 |inl xs =>
  obtain⟨t1,t2,vs,t3,t4⟩:=h
  refine⟨t1,t2,vs,t3.keep (fun g hg=>?_),t4⟩
  have : g≠kb:=fun e=>hne xs rfl (by rw[hg,e])
  simp only
  rw[XN (fun e=>this e.symm)]
theorem Rel.gturn(R:Rel base w0 I0 I β σ w){b k bb kk cc clk:Nat}{es:List (AVal×(List AVal ⊕ AVal))}{arr:Array MapEntry}(hs:σ[b]?=some (.gmap k es))(hb:β b 0=some ⟨some bb,kk,cc⟩)(g2:w.heap[bb]?=some (.map arr clk)){x:AVal}{vx:Value}(hx:VR I β x vx) :
  ∀ (arr':Array MapEntry) (clk':Nat) (es':List (AVal×(List AVal ⊕ AVal))),((es'.zip arr'.toList).filterMap ZbQ).Sublist ((es.zip arr.toList).filterMap ZbQ) ->
   VRs I β (es'.map (·.1)) (arr'.toList.map (·.key))->(∀ p∈es',Zcn p.1=true)->Zel arr' clk' ->
   (∀ (i:Nat) (p:AVal×(List AVal ⊕ AVal)) (e:MapEntry),es'[i]?=some p->arr'.toList[i]?=some e->(p.2=.inr x/\e.val=vx)\/(∃ i':Nat,es[i']?=some p/\arr.toList[i']?=some e)) ->
   Rel base w0 I0 I β (σ.set b (.gmap k es')) { w with heap:=w.heap.setIfInBounds bb (.map arr' clk') }:=by
 obtain⟨kb,k',c',e1,hG⟩:=R.blk _ _ hs
 rw[hb]at e1
 simp only[Xa,BI.mk.injEq]at e1
 obtain⟨rfl,rfl,rfl⟩:=e1
 obtain⟨g0,g1,arr1,clk1,g2',g3,g4,g5,g6⟩:=hG
 rw[g2]at g2'
 simp only[Xa,Obj.map.injEq]at g2'
 obtain⟨rfl,rfl⟩:=g2'
 have hlt:bb<w.heap.size:=(Xz.1 g2).1
 have hents:=ZiK g2
 rw[Zj0,hents]at g0
 obtain⟨n1,n2⟩:=WA.1 g0
 have hnk:∀ (i:Nat) (p:AVal×(List AVal ⊕ AVal)) (e:MapEntry),es[i]?=some p->arr.toList[i]?=some e->∀ xs,p.2=.inl xs->Zau e.val≠some bb:=by
  intro i p e hp he xs hpx hc
  refine n1 (List.mem_filterMap.2 ⟨(p,e),Xx (i:=i) (by rw[List.getElem?_zip_eq_some];exact⟨hp,he⟩),?_⟩)
  unfold ZbQ
  simp only[hpx]
  exact hc
 intro arr' clk' es' f1 f2 f3 f4 f5
 have hsub:∀ c∈ZaD { w with heap:=w.heap.setIfInBounds bb (.map arr' clk') } bb es',c∈ZaD w bb es:=by
  intro c hc
  rw[Zj0,Zuz hlt]at hc
  rw[Zj0,hents]
  rcases XI.1 hc with rfl |hc
  ·simp
  ·exact Wr _ (f1.subset hc)
 refine R.regmap hs (by simp[hb]) (by simp[ZaD]) ⟨bb,kk,cc,hb,?_,g1,arr',clk',by simp only[X7 hlt],f2,f3,f4,?_⟩ hsub
 ·rw[Zj0,Zuz hlt]
  exact WA.2 ⟨fun h=>n1 (f1.subset h),n2.sublist f1⟩
 ·intro i p e hp he
  rcases f5 i p e hp he with⟨h1,h2⟩ |⟨i',h1,h2⟩
  ·rw[h1,h2];exact hx
  ·exact(g6 i' p e h1 h2).keep (hnk i' p e h1 h2)
theorem Zwg(R:Rel base w0 I0 I β σ w){t kt et:TypeId}(ht:P.underlying t=some (.map kt et)){d:TypeDesc}(hdk:P.underlying kt=some d){kc:Nat}(hd:Za5 d=some kc){b k:Nat}{es:List (AVal×(List AVal ⊕ AVal))}{q x:AVal}{vm vk vx:Value}(hkc:Zak q=kc)(hkA:Zcn q=true)(hm:VR I β (.map b) vm)(hk:VR I β q vk)(hx:VR I β x vx)
  (hs:σ[b]?=some (.gmap k es)) {es':List (AVal×(List AVal ⊕ AVal))} (h:ZhP q (.inr x) es=some es'):∃ w',(Instr.mapUpdate t vm vk vx).run P w=.ok () w'/\Rel base w0 I0 I β (σ.set b (.gmap k es')) w':=by
 have hd':Za5 d=some (Zak q):=by rw[hd,hkc]
 simp only[VR]at hm
 obtain⟨bb,kk,cc,hb,rfl⟩:=hm
 obtain⟨kb,k',c',e1,hG⟩:=R.blk _ _ hs
 rw[hb]at e1
 simp only[Xa,BI.mk.injEq]at e1
 obtain⟨rfl,rfl,rfl⟩:=e1
 obtain⟨g0,g1,arr,clk,g2,g3,g4,g5,g6⟩:=hG
 obtain⟨s1,s2⟩:=g5
 have hg:=Zdr (P:=P) g2
 have hlt:bb<w.heap.size:=(Xz.1 g2).1
 have hlen:es.length=arr.toList.length:=by simpa using Zae g3
 have fin:=R.gturn hs hb g2 hx
 unfold ZhP at h
 split at h
 ·rename_i j y hf
  injection h with h;subst h
  rcases ZgY hd' hk es arr.toList 0 _ g3 hf with⟨h1,_⟩ |⟨j',y',e,q',h1,h2,h3,h4,h6,h7⟩
  ·cases h1
  ·simp only[Xv,Xa,Xc]at h1 h2
   obtain⟨rfl,rfl⟩:=h1
   have hr:=ZbV (P:=P) (w:=w) hdk h2
   obtain⟨sb,_⟩:=Zrb h6 hk h7
   have h3':arr[j]?=some e:=by rw[<-XaW];exact h3
   have hst:(Instr.keyThatStays (((arr[j]?).map (·.key)).getD vk) vk).run P w=.ok vk w:=by
    rw[h3']
    simp[Instr.keyThatStays,sb]
   have hmod:(arr.modify j fun e=>{ e with key:=vk,val:=vx }).toList=arr.toList.set j { e with key:=vk,val:=vx }:=by
    rw[Zee]
    apply Wt
    intro i
    rw[List.getElem?_modify,Xr]
    by_cases hij:j=i
    ·subst hij
     have hjl:=(Xh.1 h3).1
     have hjl':j<arr.size:=by simpa using hjl
     have hje:arr[j]=e:=by rw[Array.getElem?_eq_getElem hjl']at h3';exact Xbp h3'
     simp[hjl',hje]
    ·simp[hij]
   refine⟨_,?_,fin (arr.modify j fun e=>{ e with key:=vk,val:=vx }) clk _ ?_ ?_ ?_ ?_ ?_⟩
   ·simp only[Instr.mapUpdate,run_underlying ht,ZbP hdk hd,hg,hr,hst,Sem.run_bind,Result.andThen_ok,Zec g2]
   ·rw[hmod];exact ZnV es arr.toList j h3
   ·rw[Zee,Zh8 (fun x:MapEntry=>x.key) _ vk (fun _=>rfl),XaJ]
    exact ZjL g3 hk j
   ·intro p hp
    rcases XZ hp with hp |rfl
    ·exact g4 p hp
    ·exact hkA
   ·refine⟨fun e he=>?_,?_⟩
    ·rw[Zee]at he
     have hm:e.born∈(arr.toList.modify j fun e=>{ e with key:=vk,val:=vx }).map (·.born):=XG.2 ⟨e,he,rfl⟩
     rw[Zhm (fun x:MapEntry=>x.born) (fun e:MapEntry=>{ e with key:=vk,val:=vx }) (fun _=>rfl)]at hm
     obtain⟨e',he',hb'⟩:=XG.1 hm
     rw[<-hb'];exact s1 e' he'
    ·rw[Zee,Zhm (fun x:MapEntry=>x.born) (fun e:MapEntry=>{ e with key:=vk,val:=vx }) (fun _=>rfl)]
     exact s2
   ·intro i p e' hp he'
    rw[hmod,Xr]at he'
    rw[Xr]at hp
    by_cases hij:j=i
    ·subst hij
     rw[if_pos rfl]at hp he'
     split at hp
     ·injection hp with hp;subst hp
      split at he'
      ·injection he' with he';subst he';exact Xp ⟨rfl,rfl⟩
      ·cases he'
     ·cases hp
    ·rw[if_neg hij]at hp he'
     exact Xt ⟨i,hp,he'⟩
 ·rename_i hf
  injection h with h;subst h
  rcases ZgY hd' hk es arr.toList 0 _ g3 hf with⟨_,h2⟩ |⟨j',y',e,q',h1,_⟩
  ·have hr:=ZbV (P:=P) (w:=w) hdk h2
   refine⟨_,?_,fin (arr.push { key:=vk,val:=vx,born:=clk }) (clk+1) _ ?_ ?_ ?_ ?_ ?_⟩
   ·simp only[Instr.mapUpdate,run_underlying ht,ZbP hdk hd,hg,hr,Sem.run_bind,Result.andThen_ok,Zec g2]
   ·rw[Wn,ZwR es arr.toList hlen]
    exact XaA _
   ·rw[Wn,XH,XH]
    exact Zcj g3 (by simp only[Xn,Xo,VRs];exact⟨_,_,rfl,hk,rfl⟩)
   ·intro p hp
    rcases Xs.1 hp with hp |hp
    ·exact g4 p hp
    ·rw[XM]at hp;subst hp;exact hkA
   ·refine⟨fun e he=>?_,?_⟩
    ·rw[Wn]at he
     rcases Xs.1 he with he |he
     ·have:=s1 e he;omega
     ·rw[XM]at he;subst he;exact XaF clk
    ·rw[Wn,XH,Xak]
     refine⟨s2,by simp,?_⟩
     intro a ha b hb'
     simp only[Xn,Xo,XM]at hb'
     subst hb'
     obtain⟨e',he',rfl⟩:=XG.1 ha
     have:=s1 e' he'
     omega
   ·intro i p e' hp he'
    rw[Wn,WF]at he'
    rw[WF]at hp
    by_cases hil:i<es.length
    ·rw[if_pos hil]at hp
     rw[if_pos (by omega)]at he'
     exact Xt ⟨i,hp,he'⟩
    ·rw[if_neg hil]at hp
     rw[if_neg (by omega)]at he'
     have h0:i-es.length=0:=by
      have:=(Xh.1 hp).1
      simp only[Xm,List.length_nil]at this
      omega
     rw[h0]at hp
     rw[<-hlen,h0]at he'
     simp only[XE,Xa]at hp he'
     subst hp he'
     exact Xp ⟨rfl,rfl⟩
  ·cases h1
 ·cases h
theorem Zwp{q:AVal}:∀ {es:List (AVal×(List AVal ⊕ AVal))} {i j:Nat} {y:List AVal ⊕ AVal},Zeu q es i=some (some (j,y))->∃ j' q',j=i+j'/\es[j']?=some (q',y)
 | [],i,j,y,h=>by simp[Zeu]at h
 |(a,b)::es,i,j,y,h=>by
  simp only[Zeu]at h
  split at h
  ·simp only[Xa,Xc]at h
   obtain⟨rfl,rfl⟩:=h
   exact⟨0,a,rfl,rfl⟩
  ·obtain⟨j',q',e1,e2⟩:=Zwp h
   exact⟨j'+1,q',by omega,by simpa using e2⟩
  ·cases h
theorem ZHw(σ:Za)(k:Nat)(x:AVal):ZgS σ k x=(.inr x,σ)\/∃ s g n xs,x=.sl s g 0 n/\σ[s]?=some (.row g k xs)/\n<=xs.length/\ZgS σ k x=(.inl (xs.take n),σ.set s (.frow g k [])):=by
 unfold ZgS
 split
 ·rename_i s g lo n
  split
  ·rename_i g' k1 xs hrow
   split
   ·rename_i hc
    obtain⟨rfl,rfl,rfl,hn⟩:=hc
    exact Xt ⟨s,g',n,xs,rfl,hrow,hn,rfl⟩
   ·exact Xp rfl
  ·exact Xp rfl
 ·exact Xp rfl
theorem ZFR(R:Rel base w0 I0 I β σ w){t kt et:TypeId}(ht:P.underlying t=some (.map kt et)){d:TypeDesc}(hdk:P.underlying kt=some d){kc:Nat}(hd:Za5 d=some kc){b k:Nat}{es es':List (AVal×(List AVal ⊕ AVal))}{q x:AVal}{vm vk vx:Value}(hkc:Zak q=kc)(hkA:Zcn q=true)(hm:VR I β (.map b) vm)(hk:VR I β q vk)(hx:VR I β x vx)
  (hs:σ[b]?=some (.gmap k es)) (h:ZhP q (ZgS σ k x).1 es=some es'):∃ w',(Instr.mapUpdate t vm vk vx).run P w=.ok () w'/\Rel base w0 I0 I β ((ZgS σ k x).2.set b (.gmap k es')) w':=by
 rcases ZHw σ k x with e |⟨s,g',n,xs,rfl,hrow,hn,e⟩
 ·rw[e]at h⊢
  exact Zwg R ht hdk hd hkc hkA hm hk hx hs h
 rw[e]at h⊢
 simp only at h⊢
 have hsb:s≠b:=by rintro rfl;rw[hrow]at hs;cases hs
 have hbl:b<σ.length:=(Xh.1 hs).1
 have key:∀ es1,ZhP q (.inr (.sl s g' 0 n)) es=some es1->∀ j,es1[j]?=some (q,.inr (.sl s g' 0 n))->es'=es1.set j (q,.inl (xs.take n))->∃ w',(Instr.mapUpdate t vm vk vx).run P w=.ok () w'/\Rel base w0 I0 I β ((σ.set s (.frow g' k [])).set b (.gmap k es')) w':=by
  intro es1 h1 j hj he
  obtain⟨w',hw,R'⟩:=Zwg R ht hdk hd hkc hkA hm hk hx hs h1
  have:=R'.give_row (t:=b) (s:=s) (k:=k) (j:=j) (g:=g') (n:=n) (es:=es1) (q:=q) (xs:=xs) (by rw[Xr,if_pos rfl,if_pos hbl]) hj (by rw[Xr,if_neg (fun e=>hsb e.symm)];exact hrow) hn
  rw[List.set_comm _ _ (fun e=>hsb e.symm),Xbo,<-he]at this
  exact⟨w',hw,this⟩
 unfold ZhP at h key
 split at h
 ·rename_i j y hf
  injection h with h;subst h
  rw[hf]at key
  obtain⟨j',q',e1,e2⟩:=Zwp hf
  have hj:j<es.length:=by have:=(Xh.1 e2).1;omega
  exact key _ rfl j (by rw[Xr,if_pos rfl,if_pos hj]) (by rw[Xbo])
 ·rename_i hf
  injection h with h;subst h
  rw[hf]at key
  exact key _ rfl es.length (by simp) (by simp)
 ·cases h
theorem ZqN{α:Type}:∀ {l:List α} {j i:Nat} {x:α},(l.eraseIdx j)[i]?=some x->l[if i<j then i else i+1]?=some x
 | [],j,i,x,h=>by simp at h
 |a::l,0,i,x,h=>by simpa using h
 |a::l,j+1,0,x,h=>by simpa using h
 |a::l,j+1,i+1,x,h=>by
  have:=ZqN (l:=l) (j:=j) (i:=i) (x:=x) (by simpa using h)
  by_cases hij:i<j
  ·rw[if_pos hij]at this;rw[if_pos (by omega)];simpa using this
  ·rw[if_neg hij]at this;rw[if_neg (by omega)];simpa using this
theorem ZwX(R:Rel base w0 I0 I β σ w){t kt et:TypeId}(ht:P.underlying t=some (.map kt et)){d:TypeDesc}(hdk:P.underlying kt=some d){kc:Nat}(hd:Za5 d=some kc){b k:Nat}{es:List (AVal×(List AVal ⊕ AVal))}{q:AVal}{vm vk:Value}(ts:List TypeId)(ty:TypeId)(hkc:Zak q=kc)(hm:VR I β (.map b) vm)(hk:VR I β q vk)
  (hs:σ[b]?=some (.gmap k es)) {r:Option (Nat×(List AVal ⊕ AVal))} (h:Zeu q es 0=some r):∃ w',(Builtin.delete_ (t::ts).toArray ty #[vm,vk]).run P w=.ok (.tuple #[]) w'/\Rel base w0 I0 I β (σ.set b (.gmap k (match r with |some (j,_)=>es.eraseIdx j |none=>es))) w':=by
 have hd':Za5 d=some (Zak q):=by rw[hd,hkc]
 simp only[VR]at hm
 obtain⟨bb,kk,cc,hb,rfl⟩:=hm
 obtain⟨kb,k',c',e1,hG⟩:=R.blk _ _ hs
 rw[hb]at e1
 simp only[Xa,BI.mk.injEq]at e1
 obtain⟨rfl,rfl,rfl⟩:=e1
 obtain⟨g0,g1,arr,clk,g2,g3,g4,g5,g6⟩:=hG
 have hg:=Zdr (P:=P) g2
 have fin:=R.gturn hs hb g2 (x:=.nilp) (vx:=.pointer none) (by simp[VR])
 have hbl:b<σ.length:=(Xh.1 hs).1
 rcases ZgY hd' hk es arr.toList 0 _ g3 h with⟨rfl,h2⟩ |⟨j,y,e,q',rfl,h2,h3,h4,h6,h7⟩
 ·have hr:=ZbV (P:=P) (w:=w) hdk h2
  refine⟨_,?_,fin arr clk es (XaA _) g3 g4 g5 (fun i p e h1 h2=>Xt ⟨i,h1,h2⟩)⟩
  simp[Builtin.delete_,run_underlying ht,ZbP hdk hd,hg,hr,Zec g2]
 ·simp only[Xv]at h2
  have hr:=ZbV (P:=P) (w:=w) hdk h2
  have el:(arr.eraseIdxIfInBounds j).toList=arr.toList.eraseIdx j:=by simp
  simp only[Xv]
  refine⟨_,?_,fin (arr.eraseIdxIfInBounds j) clk (es.eraseIdx j) ?_ ?_ (fun p hp=>g4 p (Wu hp)) ?_ ?_⟩
  ·simp[Builtin.delete_,run_underlying ht,ZbP hdk hd,hg,hr,Zec g2]
  ·rw[el];exact ZqX es arr.toList j
  ·rw[el,Zdd,Zdd];exact Zih j g3
  ·refine⟨fun e he=>?_,?_⟩
   ·rw[el]at he;exact g5.1 e (Wu he)
   ·rw[el,Zdd];exact g5.2.sublist (XaX _ _)
  ·intro i p e' hp he'
   rw[el]at he'
   exact Xt ⟨_,ZqN hp,ZqN he'⟩
theorem ZyE(R:Rel base w0 I0 I β σ w){t kt et:TypeId}(ht:P.underlying t=some (.map kt et)){d:TypeDesc}(hdk:P.underlying kt=some d){kc:Nat}(hd:Za5 d=some kc){m k x v:AVal}{vm vk vx:Value}{c:Cls}(hm:VR I β m vm)(hk:VR I β k vk)(hx:VR I β x vx)
  (h:ZiL σ kc m k x=some (v,σ',c)):v=.tup []/\∃ w' β',(Instr.mapUpdate t vm vk vx).run P w=.ok () w'/\β.le β'/\Rel base w0 I0 I β' σ' w':=by
 by_cases hg:∃ b wd es,m=.map b/\σ[b]?=some (.gmap wd es)
 ·obtain⟨b,wd,es,rfl,hs⟩:=hg
  unfold ZiL at h
  split at h
  case isFalse=>cases h
  rename_i hkc
  obtain⟨hkc,hkA,_⟩:=hkc
  simp only[hs]at h
  split at h
  ·rename_i es' he
   simp only[Xa,Xc]at h
   obtain⟨rfl,rfl,rfl⟩:=h
   obtain⟨w',h1,h2⟩:=ZFR R ht hdk hd hkc hkA hm hk hx hs he
   exact⟨rfl,w',β,h1,Bmap.le.refl β,h2⟩
  ·cases h
 ·exact ZB9 R ht hdk hd hm hk hx (fun t e w es hs=>hg ⟨t,w,es,e,hs⟩) h
theorem ZSu(R:Rel base w0 I0 I β σ w){t kt et:TypeId}(ht:P.underlying t=some (.map kt et)){d:TypeDesc}(hdk:P.underlying kt=some d){kc:Nat}(hd:Za5 d=some kc){m k v:AVal}{vm vk:Value}{c:Cls}(ts:List TypeId)(ty:TypeId)(hm:VR I β m vm)(hk:VR I β k vk)
  (h:ZgU σ kc m k=some (v,σ',c)):∃ w',(Builtin.delete_ (t::ts).toArray ty #[vm,vk]).run P w=.ok (.tuple #[]) w'/\v=.tup []/\Rel base w0 I0 I β σ' w':=by
 by_cases hg:∃ b wd es,m=.map b/\σ[b]?=some (.gmap wd es)
 ·obtain⟨b,wd,es,rfl,hs⟩:=hg
  unfold ZgU at h
  split at h
  case isFalse=>cases h
  rename_i hkc
  simp only[hs]at h
  split at h
  ·rename_i j y he
   simp only[Xa,Xc]at h
   obtain⟨rfl,rfl,rfl⟩:=h
   obtain⟨w',h1,h2⟩:=ZwX R ht hdk hd ts ty hkc hm hk hs he
   exact⟨w',h1,rfl,h2⟩
  ·rename_i he
   simp only[Xa,Xc]at h
   obtain⟨rfl,rfl,rfl⟩:=h
   obtain⟨w',h1,h2⟩:=ZwX R ht hdk hd ts ty hkc hm hk hs he
   exact⟨w',h1,rfl,h2⟩
  ·cases h
 ·exact ZER R ht hdk hd ts ty hm hk (fun t e w es hs=>hg ⟨t,w,es,e,hs⟩) h
end
end
end Go.Proofs.YtbcbhgbffjkheaaDoor
