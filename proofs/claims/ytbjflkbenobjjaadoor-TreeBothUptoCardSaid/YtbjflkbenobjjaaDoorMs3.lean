/- packed -/
import Derived.Test.YtbjflkbenobjjaaDoorMs2
import Derived.Maps.RangeRun
import Derived.Scope
import Derived.Lib.Index
import Derived.Shelf.Unicode.ValidAny
import Derived.Shelf.Strings.Count
import Derived.Sort.Row
import Derived.Sort.Grow
import Derived.Shelf.SlSortCmp.NoneTotal
import Derived.Lib.Bytealg
import Derived.Test.YtbjflkbenobjjaaDoorProg
import Derived.Deep.Slices
import Derived.ChangeArms
import Derived.WideShapes
import GoSem.ClaimChange
set_option linter.defProp false
set_option linter.unusedSectionVars false
set_option linter.unusedSimpArgs false
set_option linter.unusedVariables false
open Option.some renaming injEq→Xa
open Prod.mk renaming injEq→Xb
open List renaming getElem?_eq_some_iff→Xc,getD_eq_getElem?_getD→Xd,mem_append→Xl,getElem?_eq_getElem→Xm,mem_of_getElem?→Xn,mem_map→Xq,nil_append→Xr,getElem?_set_ne→Xs,mem_cons→Xv,length_append→Xx,replicate→Xy,map_cons→XA,getElem?_cons_zero→XB,cons_append→XC,length_cons→XD,append_nil→XE,all_eq_true→XF,flatMap_cons→XG,getD_cons_zero→XK,mem_singleton→XM,getElem?_map→XN,getElem?_eq_none→XO,getElem?_cons_succ→XP,length_nil→XT,nodup_cons→XV,eq_nil_of_length_eq_zero→XW,map_map→XY,map_append→X0,mem_filter→X1,all_cons→X3,map_nil→X9,zip_cons_cons→We,ext_getElem?→Wg,length_map→Wj,range→Wm,flatMap_nil→Wp,filterMap_cons→Wr,length_singleton→Wv,all_nil→Ww,nodup_append→WE,mem_iff_getElem?→WK,mem_range→WR,contains_eq_mem→Xar,drop_zero→XaS,lookup_cons→XaU,mergeSort_perm→XaX,not_lt→XaY,pairwise_mergeSort→Xa4,Perm→Xbb,take_append_drop→Xbc,nodup_range→Xbf,le_antisymm→Xbg,mapM_cons→Xbt,lt_irrefl→Xbu,flatten_cons→Xby,map_take→XbN
open Bool renaming false_eq_true→Xf,and_eq_true→Xh,not_eq_true'→Wb,and_self→Wh,true_or→Xak,false_and→XaD,true_and→Xbz
open Option renaming map_eq_some_iff→Xi,bind_some→XH,map_some→XQ,getD_some→Wy,map→WY,isSome_none→XaG
open Or renaming inl→Xk,inr→Xp
open Array renaming getElem?_eq_some_iff→Xu,length_toList→XR,getElem?_setIfInBounds_ne→XS,getElem?_toList→WL,getD_eq_getD_getElem?→WU,getElem?_modify→Xai,getElem?_eq_getElem→Xap,replicate→Xbn
open Nat renaming zero_add→Xw,le_refl→XI,add_zero→Wo,le_max_right→Wu,add_assoc→WC,le_max_left→WN,lt_or_ge→Xav,zero_mul→Xbs,succ_mul→XbD
open List.cons renaming injEq→WD
open ByteArray renaming size→WP
open Ne renaming symm→WV
open Int renaming toNat_natCast→W4
open List.Perm renaming refl→Xag
open SizeOf renaming sizeOf→Xa3
open Function renaming comp_def→Xbx
namespace Go.Proofs.YtbjflkbenobjjaaDoor
set_option maxHeartbeats 16000000
set_option maxRecDepth 10000
section
open Go.RowKit
open Go.ChangeMaps (setBlock)
theorem ZqF:∀ (js L:List Nat),js.Nodup->(∀ j ∈ js,j ∈ L)->L.Nodup->∃ rest,L.Perm (js++rest)
 | [],L,_,_,_=>⟨L,Xag _⟩
 | j::js,L,hn,hs,hL=>by
  have hj:j ∈ L:=hs j (by simp)
  have hp:L.Perm (j::L.erase j):=List.perm_cons_erase hj
  obtain ⟨rest,hr⟩:=ZqF js (L.erase j) (XV.1 hn).2 (fun k hk=>by
   have hne:k≠j:=by rintro rfl;exact (XV.1 hn).1 hk
   exact (List.mem_erase_of_ne hne).2 (hs k (by simp [hk]))) (hL.erase j)
  exact ⟨rest,hp.trans (by simpa using Xbb.cons j hr)⟩
theorem ZtX {α:Type} (es:List α) (d:α):(Wm es.length).map (es.getD · d)=es:=by
 apply Wg
 intro i
 rw [XN]
 by_cases h:i < es.length
 ·rw [List.getElem?_range h];simp [Xd,h]
 ·rw [XO (by simpa using h),XO (by omega)];rfl
theorem ZiW:∀ {σ σ':Za} {u:Nat} {b:Zg},Zb5 σ σ'=true->σ'[u]?=some b->Zcy b=true->∃ a,σ[u]?=some a/\ZcU a b=true
 | _,[],u,b,_,h,_=>by simp at h
 | [],x::r,u,b,h,hu,hb=>by
  simp only [Zb5,Xh,Wb] at h
  cases u with
  | zero =>
   simp only [XB,Xa] at hu
   subst hu
   rw [h.1] at hb;cases hb
  | succ u =>
   obtain ⟨a,h1,_⟩:=ZiW h.2 (by simpa using hu) hb
   simp at h1
 | a::s,x::r,u,b,h,hu,hb=>by
  simp only [Zb5,Xh] at h
  cases u with
  | zero =>
   simp only [XB,Xa] at hu
   subst hu
   exact ⟨a,rfl,h.1⟩
  | succ u =>
   obtain ⟨a',h1,h2⟩:=ZiW h.2 (by simpa using hu) hb
   exact ⟨a',by simpa using h1,h2⟩
theorem ZyB {arr:Array MapEntry} {seen:Array Nat} {e:MapEntry} (h:e ∈ (leftOf arr seen).toList):e ∈ arr.toList/\seen.contains e.born=false:=by
 unfold leftOf at h
 simp only [Array.toList_filter,X1,Wb] at h
 exact h
theorem ZFM {arr:Array MapEntry} {seen:Array Nat} (h:(leftOf arr seen).size=0):∀ e ∈ arr.toList,seen.contains e.born=true:=by
 intro e he
 cases hc:seen.contains e.born with
 | true=>rfl
 | false =>
  have hm:e ∈ (leftOf arr seen).toList:=by
   unfold leftOf
   simp only [Array.toList_filter,X1,Wb]
   exact ⟨he,hc⟩
  have : (leftOf arr seen).toList=[]:=by
   apply XW
   simpa using h
  rw [this] at hm;cases hm
section
variable {P:Program} {O:Zz} {bf:Nat->Bool} {an:Ann} {base base':Nat->Prop} {w0 w w' w1 w2:World} {I0 I I' I1 I2:Imm} {β β' β1 β2:Bmap} {σ σ' σ1 σ2:Za} {dr:Door}
theorem noO:Z1 P (fun _ _ _=>none):=by intro f args σ r σ' h;cases h
theorem Zg6 {ops:Array Oper} {Q:Exit->Act->World->Prop} {o:Oper} {l:List Oper} {a:Act} {w:World} (hg:o.guard=none) (h:o.wp P a w (wpList P ops Q l) Q):wpList P ops Q (o::l) a w:=by
 unfold wpList
 have : Region.wanted o (yielded ops a.tmps)=true:=by unfold Region.wanted;rw [hg]
 rw [this]
 simp only [if_true]
 exact Xk h
theorem pgs {a:Act} {d:Nat} {u:Value} (h:d < a.tmps.size):(a.put (some d) u).tmps.getD d undef=u:=by
 simp [Act.put,Array.getD,h]
theorem ZiG {m:Sem Value} {u:Value} (h:m.run P w=.ok u w):(do let q <-m;pure (Next.value q):Sem Next).run P w=.ok (.value u) w:=by
 rw [Sem.run_bind,h];rfl
theorem pgn {a:Act} {d j:Nat} {u:Value} (h:d≠j):(a.put (some d) u).tmps.getD j undef=a.tmps.getD j undef:=by
 simp only [Act.put,WU]
 rw [XS h]
def StF (dr:Door) (m nt:Nat) (base:Nat->Prop) (w0:World) (I0 I:Imm) (β:Bmap) (tm:Tms) (σ:Za) (a:Act) (w:World):Prop :=
 ∃ I' β',I.le I'/\KeptE m β β'/\TR I' β' tm a.tmps/\(dr.ok a/\nt<=a.tmps.size)/\Rel base w0 I0 I' β' σ w
def ZlN (dr:Door) (m:Nat) (an:Ann) (base:Nat->Prop) (w0:World) (I0 I:Imm) (β:Bmap) (e:Zy) (tm:Tms) (σ:Za) (Q:Exit->Act->World->Prop):Prop:=match e with
 | .normal=>∀ a w,StF dr m an.nt base w0 I0 I β tm σ a w->Q .normal a w
 | .exit id=>∀ a w,StF dr m an.nt base w0 I0 I β tm σ a w->Q (.exit id) a w
 | .ret=>∀ a w,StF dr m an.nt base w0 I0 I β tm σ a w->Q .ret a w
 | .panic x=>∀ a u w,dr.ok a->Zbu m base w0 I0 I β (.pan x) σ u w->Q (.panic [{ v:=u,recovered:=false }]) a w
theorem Zko (hO:Z1 P O) (hkp:∀ n ∈ dr.K,n ∈ an.keep) (hb:KLt base w0) {ops:Array Oper} {Q:Exit->Act->World->Prop} {r:List Oper}:∀ {l:List Oper} {asl:List AOp} {sq:Nat} {I:Imm} {β:Bmap} {tm tm':Tms} {σ σ':Za} {cs:List Cls} {a:Act} {w:World},Zb4 P an ops l=some asl->TR I β tm a.tmps->(dr.ok a/\an.nt<=a.tmps.size)->Rel base w0 I0 I β σ w ->
  ZA O bf asl sq tm σ=some (tm',σ',cs,none)->(∀ a' w',StR dr an.nt base w0 I0 I β tm' σ' a' w'->wpList P ops Q r a' w')->wpList P ops Q (l++r) a w
 | [],asl,sq,I,β,tm,tm',σ,σ',cs,a,w,hc,T,hd,R,h,hQ=>by
  simp only [Zb4,Xa] at hc;subst hc
  simp only [ZA,Xa,Xb] at h
  obtain ⟨rfl,rfl,rfl,_⟩:=h
  exact hQ _ _ ⟨I,β,Imm.le.refl I,Bmap.le.refl β,T,hd,R⟩
 | o::l,asl,sq,I,β,tm,tm',σ,σ',cs,a,w,hc,T,hd,R,h,hQ=>by
  simp only [Zb4] at hc
  split at hc
  ·rename_i ao hao
   split at hc
   ·rename_i as' has'
    injection hc with hc;subst hc
    simp only [ZA] at h
    split at h
    ·cases h
    ·simp only [Xa,Xb] at h
     obtain ⟨_,_,_,h⟩:=h
     cases h
    ·rename_i v tm1 σ1 c1 hnp h1
     split at h
     ·cases h
     rename_i tm2 σ2 cs2 p2 h2
     simp only [Xa,Xb] at h
     obtain ⟨rfl,rfl,rfl,rfl⟩:=h
     have:=Zfs (dr:=dr) (K:=wpList P ops Q (l++r)) (Q:=Q) hO hkp hao T hd R hb h1 (fun _ a' w' hs=>by
      obtain ⟨I',β',g1,g2,g3,g4,g5⟩:=hs
      exact Zko hO hkp hb has' g3 g4 g5 h2 (fun a'' w'' hs'=>hQ a'' w'' (hs'.trans g1 g2))) (fun x e=>absurd e (fun e=>hnp x e))
     rw [XC]
     unfold wpList
     exact this
   ·cases hc
  ·cases hc
theorem Zqk {asl:List AOp} {tm tm':Tms} (h:Zbo bf asl tm σ=some (tm',σ')):∃ cs,ZA (fun _ _ _=>none) bf asl σ.length tm σ=some (tm',σ',cs,none):=by
 unfold Zbo at h
 split at h
 ·rename_i tm1 σ1 cs h1
  simp only [Xa,Xb] at h
  obtain ⟨rfl,rfl⟩:=h
  exact ⟨cs,h1⟩
 ·cases h
theorem Zwz {m:Nat} {x:AVal} {v:Value} (hx:Zdh m x=true) (hk:KeptE m β β') (h:VR I β x v):VR I' β' x v\/(∃ a xs,x=.lst a xs):=by
 cases x with
 | int | bool | str | nilp | nilm | nili=>exact Xk h
 | lst a xs=>exact Xp ⟨a,xs,rfl⟩
 | sl t g lo n =>
  simp only [Zdh,Xh,decide_eq_true_eq] at hx
  obtain ⟨rfl,ht⟩:=hx
  simp only [VR] at h ⊢
  obtain ⟨bi,e,h⟩:=h
  exact Xk ⟨bi,hk.zero ht e,h⟩
 | ref t o =>
  simp only [Zdh,decide_eq_true_eq] at hx
  simp only [VR] at h ⊢
  obtain ⟨b,k,c,e,h⟩:=h
  exact Xk ⟨b,k,c,hk.zero hx e,h⟩
 | map t =>
  simp only [Zdh,decide_eq_true_eq] at hx
  simp only [VR] at h ⊢
  obtain ⟨b,k,c,e,h⟩:=h
  exact Xk ⟨b,k,c,hk.zero hx e,h⟩
 | nref t j o =>
  simp only [Zdh,decide_eq_true_eq] at hx
  simp only [VR] at h ⊢
  obtain ⟨b,k,c,e,h⟩:=h
  exact Xk ⟨b,k,c,hk t hx _ _ (Xp (by omega)) e,h⟩
 | _=>simp [Zdh] at hx
theorem ZCj {a:Bool} {xs:List AVal} {v:Value} (hI:I.le I') (h:VR I β (.lst a xs) v):VR I' β' (.lst a xs) v:=by
 have ht:ZV (.lst a xs)=true:=by
  simp only [VR] at h
  obtain ⟨A,cap,_,_,_,_,_,ht⟩:=h
  simpa [ZV] using ht
 exact (VR.of_tree (β':=β') ht h).mono hI (Bmap.le.refl _) _ _
theorem Zp7 {m:Nat} {x:AVal} {v:Value} (hx:Zdh m x=true) (hI:I.le I') (hk:KeptE m β β') (h:VR I β x v):VR I' β' x v:=by
 rcases Zwz (I':=I') hx hk h with h | ⟨a,xs,rfl⟩
 ·exact h
 ·exact ZCj hI h
theorem Zr1 {m:Nat} (hI:I.le I') (hk:KeptE m β β'):∀ {cs:List AVal} {vs:List Value},cs.all (Zdh m)=true->VRs I β cs vs->VRs I' β' cs vs
 | [],vs,_,h=>h
 | x::cs,vs,hx,h=>by
  rw [X3,Xh] at hx
  simp only [VRs] at h ⊢
  obtain ⟨v,vs',rfl,h1,h2⟩:=h
  exact ⟨v,vs',rfl,Zp7 hx.1 hI hk h1,Zr1 hI hk hx.2 h2⟩
theorem ZBy {m:Nat} {x:AVal} {v:Value} (hx:ZeV m x=true) (hI:I.le I') (hk:KeptE m β β') (h:VR I β x v):VR I' β' x v:=by
 cases x with
 | agg cs =>
  simp only [VR] at h ⊢
  obtain ⟨us,rfl,h⟩:=h
  exact ⟨us,rfl,Zr1 hI hk hx h⟩
 | _=>exact Zp7 hx hI hk h
theorem ZkP {m:Nat} (hI:I.le I') (hk:KeptE m β β'):∀ {cs:List AVal} {vs:List Value},(∀ x ∈ cs,ZeV m x=true)->VRs I β cs vs->VRs I' β' cs vs
 | [],vs,_,h=>h
 | x::cs,vs,hx,h=>by
  simp only [VRs] at h ⊢
  obtain ⟨v,vs',rfl,h1,h2⟩:=h
  exact ⟨v,vs',rfl,ZBy (hx x (by simp)) hI hk h1,ZkP hI hk (fun y hy=>hx y (by simp [hy])) h2⟩
theorem ZhE:∀ {cs:List AVal} {vs:List Value},(∀ x ∈ cs,ZbA x=true)->VRs I β cs vs->VRs I' β' cs vs
 | [],vs,_,h=>h
 | x::cs,vs,hx,h=>by
  simp only [VRs] at h ⊢
  obtain ⟨v,vs',rfl,h1,h2⟩:=h
  refine ⟨v,vs',rfl,?_,ZhE (fun y hy=>hx y (by simp [hy])) h2⟩
  have:=hx x (by simp)
  cases x <;> simp [ZbA] at this <;> exact h1
theorem Rel.rebase (R:Rel base w0 I0 I β σ w) {r:Nat} (hr:∀ t x,σ[t]?=some x->¬Zf w β t x r):Rel (fun k=>base k\/k=r) w I I β σ w where
 below:=KB.refl _ _
 old:=fun _ _ _=>rfl
 imm:=R.imm
 blk:=R.blk
 own:=fun t x b hx hb=>⟨fun h=>by
  rcases h with h | rfl
  ·exact (R.own t x b hx hb).1 h
  ·exact hr t x hx hb,(R.own t x b hx hb).2⟩
 apart:=R.apart
 fresh:=R.fresh
 free:=R.free
 gen:=R.gen
 glob:=R.glob
 ro:=fun t x b h hs=>Xk (R.ro t x b h hs)
theorem Rel.unbase (R1:Rel base w0 I0 I1 β1 σ1 w1) (R2:Rel base' w1 I1 I2 β2 σ2 w2) (hs:∀ k,base k->base' k) (hro:∀ t x b,σ2[t]?=some x->ZZ β2 t x b->base b):Rel base w0 I0 I2 β2 σ2 w2 where
 below:=R1.below.trans (R2.below.mono hs)
 old:=fun b o h=>(R2.old b o (hs b h)).trans (R1.old b o h)
 imm:=R2.imm
 blk:=R2.blk
 own:=fun t x b hx hb=>⟨fun h=>(R2.own t x b hx hb).1 (hs b h),(R2.own t x b hx hb).2⟩
 apart:=R2.apart
 fresh:=R2.fresh
 free:=R2.free
 gen:=R2.gen
 glob:=R2.glob
 ro:=hro
def ZcY:Zg->Bool
 | .map _=>true
 | .rmap _=>true
 | .arena _=>true
 | .rarena _=>true
 | _=>false
theorem ZIc {t:Nat} {B:Zg} (h:BR I β w t B):BR I β w t (roB B):=by cases B <;> exact h
theorem ZFv (B:Zg):Zb (roB B)=Zb B:=by cases B <;> rfl
theorem ZkE {t k:Nat} {B:Zg} (hm:ZcY B=true):¬Zf w β t (roB B) k:=by cases B <;> simp [ZcY] at hm <;> exact fun h=>h
theorem ZpA {t k:Nat} {B:Zg} (hm:ZcY B=true) (h:Zf w β t B k):ZZ β t (roB B) k:=by cases B <;> simp [ZcY] at hm <;> first | exact h | cases h
theorem Zkz {t k:Nat} {B:Zg} (hm:ZcY B=true) (h:ZZ β t (roB B) k):Zf w β t B k\/ZZ β t B k:=by
 cases B <;> simp [ZcY] at hm
 ·exact Xk h
 ·exact Xp h
 ·exact Xk h
 ·exact Xp h
theorem ZBP {B:Zg} (hm:ZcY B=true):roB B≠.free:=by cases B <;> simp [ZcY] at hm <;> simp [roB]
theorem Znd {t:Nat} {x:AVal} {B:Zg} {es:List (AVal×AVal)} (h:ZdP σ x=some (t,B,es)):σ[t]?=some B/\ZcY B=true/\((x=.map t/\(B=.map es\/B=.rmap es))\/∃ j nx ns nd,x=.mapg t j nx/\(B=.arena ns\/B=.rarena ns)/\ns[j]?=some nd/\es=Zbd t nd nx):=by
 unfold ZdP at h
 split at h
 ·split at h
  ·rename_i hs
   simp only [Xa,Xb] at h
   obtain ⟨rfl,rfl,rfl⟩:=h
   exact ⟨hs,rfl,Xk ⟨rfl,Xk rfl⟩⟩
  ·rename_i hs
   simp only [Xa,Xb] at h
   obtain ⟨rfl,rfl,rfl⟩:=h
   exact ⟨hs,rfl,Xk ⟨rfl,Xp rfl⟩⟩
  ·cases h
 ·rename_i t' j nx
  split at h
  ·rename_i ns hs
   split at h
   ·rename_i nd hj
    simp only [Xa,Xb] at h
    obtain ⟨rfl,rfl,rfl⟩:=h
    exact ⟨hs,rfl,Xp ⟨j,nx,ns,nd,rfl,Xk rfl,hj,rfl⟩⟩
   ·cases h
  ·rename_i ns hs
   split at h
   ·rename_i nd hj
    simp only [Xa,Xb] at h
    obtain ⟨rfl,rfl,rfl⟩:=h
    exact ⟨hs,rfl,Xp ⟨j,nx,ns,nd,rfl,Xp rfl,hj,rfl⟩⟩
   ·cases h
  ·cases h
 ·cases h
theorem ZrT {t b:Nat} {x:AVal} {B:Zg} {es:List (AVal×AVal)} (hB:BR I β w t B) (h:(x=.map t/\(B=.map es\/B=.rmap es))\/∃ j nx ns nd,x=.mapg t j nx/\(B=.arena ns\/B=.rarena ns)/\ns[j]?=some nd/\es=Zbd t nd nx) (hx:VR I β x (.map (some b))) :
  ∃ arr clk,w.heap[b]?=some (.map arr clk)/\MapW I β es arr clk/\ZZ β t (roB B) b:=by
 rcases h with ⟨rfl,h⟩ | ⟨j,nx,ns,nd,rfl,h,hj,rfl⟩
 ·simp only [VR] at hx
  obtain ⟨b',k,c,e1,e2⟩:=hx
  injection e2 with e2
  injection e2 with e2
  subst e2
  have hB':BR I β w t (.map es):=by rcases h with rfl | rfl <;> exact hB
  obtain ⟨b2,k2,c2,arr,clk,e3,e4,e5⟩:=hB'
  rw [e1] at e3
  simp only [Xa,BI.mk.injEq] at e3
  obtain ⟨rfl,rfl,rfl⟩:=e3
  refine ⟨arr,clk,e4,e5,?_⟩
  rcases h with rfl | rfl <;> simp [roB,ZZ,e1]
 ·simp only [VR] at hx
  obtain ⟨b',k,c,e1,e2⟩:=hx
  injection e2 with e2
  injection e2 with e2
  subst e2
  have hA:ArenaW I β w t ns:=by rcases h with rfl | rfl <;> exact hB
  obtain ⟨b2,k2,c2,arr,clk,e3,e4,e5,e6,e7,e8⟩:=(hA.1 j nd hj).mapBlk nx
  rw [e1] at e3
  simp only [Xa,BI.mk.injEq] at e3
  obtain ⟨rfl,rfl,rfl⟩:=e3
  refine ⟨arr,clk,e4,⟨e5,e6,e7,e8⟩,?_⟩
  have:=ZdX (Xc.1 hj).1 e1
  rcases h with rfl | rfl <;> exact this
theorem ArenaW.kind {t b:Nat} {ns:ZD} (A:ArenaW I β w t ns) (hb:ZaH β t ns b):(∃ us ty,w.heap[b]?=some (.cells us ty (0,0)))\/∃ arr clk,w.heap[b]?=some (.map arr clk):=by
 obtain ⟨g,g1,g2,hb⟩:=hb
 obtain ⟨i,hi,hg⟩:=Zlt g1 g2
 obtain ⟨nd,hnd⟩:∃ nd,ns[i]?=some nd:=⟨_,Xm hi⟩
 obtain ⟨bs,k0,c0,us,ty,bv,k1,c1,arr,clk,bn,k2,c2,arr',clk',h0,h1,h2,⟨a1,a2⟩,⟨b1,_⟩,d1,_⟩:=A.1 i nd hnd
 rcases hg with rfl | rfl | rfl
 ·rw [h0] at hb;simp only [XH,Xa] at hb;subst hb;exact Xk ⟨_,_,a1⟩
 ·rw [h1] at hb;simp only [XH,Xa] at hb;subst hb;exact Xp ⟨_,_,b1⟩
 ·rw [h2] at hb;simp only [XH,Xa] at hb;subst hb;exact Xp ⟨_,_,d1⟩
theorem Zuo {t b:Nat} {x:Zg} (h:BR I β w t x) (hs:ZZ β t x b) {m:Option Nat} {l:Array Nat} {c c':Nat}:w.heap[b]?≠some (.mapIter m c l c'):=by
 cases x with
 | rmap es =>
  obtain ⟨b2,_,_,_,_,e1,e2,_⟩:=h
  simp only [ZZ,e1,XH,Xa] at hs
  subst hs
  intro h3;rw [e2] at h3;cases h3
 | rarena ns =>
  rcases ArenaW.kind h hs with ⟨us,ty,e⟩ | ⟨arr,clk,e⟩ <;> (intro h3;rw [e] at h3;cases h3)
 | _=>cases hs
theorem ArenaW.keepE {m t:Nat} {ns:ZD} (A:ArenaW I β w t ns) (ht:t < m) (hI:I.le I') (hk:KeptE m β β'):(∀ g,1001<=g->g < 1001+3*ns.length->β' t g=β t g):=by
 intro g g1 g2
 obtain ⟨b,k,c,e⟩:=A.somb g1 g2
 rw [e,hk t ht g _ (Xp (by omega)) e]
theorem ArenaW.keep2 {m t:Nat} {ns:ZD} (A:ArenaW I β w t ns) (ht:t < m) (hI:I.le I') (hk:KeptE m β β') (hh:∀ b,ZaH β t ns b->w'.heap[b]?=w.heap[b]?):ArenaW I' β' w' t ns:=by
 have hs:=A.keepE ht hI hk
 refine ⟨fun i nd hi=>?_,fun g g' b a1 a2 a3 a4 h1 h2=>A.2 g g' b a1 a2 a3 a4 (by rw [<-hs g a1 a2];exact h1) (by rw [<-hs g' a3 a4];exact h2)⟩
 have hil:=(Xc.1 hi).1
 obtain ⟨bs,k0,c0,us,ty,bv,k1,c1,arr,clk,bn,k2,c2,arr',clk',h0,h1,h2,⟨a1,a2⟩,⟨b1,b2,b3,b4,b5⟩,d1,d2,d3,d4,d5⟩:=A.1 i nd hi
 have g0:1001<=ZB i false/\ZB i false < 1001+3*ns.length/\1001<=ZB i true/\ZB i true < 1001+3*ns.length:=by unfold ZB;simp;omega
 refine ⟨bs,k0,c0,us,ty,bv,k1,c1,arr,clk,bn,k2,c2,arr',clk',by rw [hs _ (by omega) (by omega)];exact h0,by rw [hs _ g0.1 g0.2.1];exact h1,by rw [hs _ g0.2.2.1 g0.2.2.2];exact h2,⟨by rw [hh bs (ZjT hil h0)];exact a1,a2⟩,⟨by rw [hh bv (ZdX hil h1)];exact b1,ZhE (fun y hy=>by obtain ⟨p,hp,rfl⟩:=Xq.1 hy;exact (b4 p hp).1) b2,?_,b4,b5⟩,by rw [hh bn (ZdX hil h2)];exact d1,ZhE (fun y hy=>by obtain ⟨p,hp,rfl⟩:=Xq.1 hy;exact (d4 p hp).1) d2,ZkP (m:=m) hI hk (fun y hy=>by obtain ⟨p,hp,rfl⟩:=Xq.1 hy;simp [ZeV,Zdh,ht]) d3,d4,d5⟩
 refine VRs.mono hI (Bmap.le.refl β') _ _ (VRs.of_cells (β:=β) ?_ b3)
 intro x hx
 obtain ⟨p,hp,rfl⟩:=Xq.1 hx
 have:=ZoG (b4 p hp).2
 generalize p.2=q at this ⊢
 cases q <;> simp_all [ZV,AVal.cells,ZX]
theorem ZuQ {m t:Nat} {B:Zg} (hB:BR I β w t B) (hm:ZcY B=true) (ht:t < m) (hk:KeptE m β β') (k:Nat):ZZ β' t (roB B) k↔ZZ β t (roB B) k:=by
 have one:∀ es,BR I β w t (.map es)->(ZZ β' t (.rmap es) k↔ZZ β t (.rmap es) k):=by
  rintro es ⟨b,k',c,_,_,e,_⟩
  simp [ZZ,e,hk.zero ht e]
 have two:∀ ns,ArenaW I β w t ns->(ZaH β' t ns k↔ZaH β t ns k):=by
  intro ns A
  have hs:=A.keepE ht (Imm.le.refl I) hk
  constructor
  ·rintro ⟨g,g1,g2,h⟩;exact ⟨g,g1,g2,by rw [<-hs g g1 g2];exact h⟩
  ·rintro ⟨g,g1,g2,h⟩;exact ⟨g,g1,g2,by rw [hs g g1 g2];exact h⟩
 cases B <;> simp [ZcY] at hm
 ·exact one _ hB
 ·exact one _ hB
 ·exact two _ hB
 ·exact two _ hB
theorem Rel.hide (R:Rel base w0 I0 I β σ w) {t r:Nat} {B:Zg} (ht:σ[t]?=some B) (hm:ZcY B=true) (hr:∀ t x,σ[t]?=some x->¬Zf w β t x r):Rel (fun k=>base k\/ZZ β t (roB B) k\/k=r) w I I β (σ.set t (roB B)) w:=by
 have htl:t < σ.length:=(Xc.1 ht).1
 have look:∀ u x,(σ.set t (roB B))[u]?=some x->(u=t/\x=roB B)\/(u≠t/\σ[u]?=some x):=fun u x h=>Zfe htl h
 have hB:=R.blk t _ ht
 refine ⟨KB.refl _ _,fun _ _ _=>rfl,R.imm,?_,?_,?_,fun u g hu=>R.fresh u g (by simpa using hu),?_,?_,R.glob,?_⟩
 ·intro u x hx
  rcases look u x hx with ⟨rfl,rfl⟩ | ⟨_,hx⟩
  ·exact ZIc hB
  ·exact R.blk u x hx
 ·intro u x j hx ho
  rcases look u x hx with ⟨rfl,rfl⟩ | ⟨hu,hx⟩
  ·exact absurd ho (ZkE hm)
  ·refine ⟨fun h=>?_,(R.own u x j hx ho).2⟩
   rcases h with h | h | rfl
   ·exact (R.own u x j hx ho).1 h
   ·rcases Zkz (w:=w) hm h with h | h
    ·exact hu (R.apart u x t _ j hx ht ho h)
    ·exact (R.own u x j hx ho).1 (R.ro t _ j ht h)
   ·exact hr u x hx ho
 ·intro u x u' x' j hx hx' ho ho'
  rcases look u x hx with ⟨rfl,rfl⟩ | ⟨hu,hx⟩
  ·exact absurd ho (ZkE hm)
  ·rcases look u' x' hx' with ⟨rfl,rfl⟩ | ⟨hu',hx'⟩
   ·exact absurd ho' (ZkE hm)
   ·exact R.apart u x u' x' j hx hx' ho ho'
 ·intro u g hx
  rcases look u _ hx with ⟨_,h⟩ | ⟨_,hx⟩
  ·exact absurd h.symm (ZBP hm)
  ·exact R.free u g hx
 ·intro u x g hx hg
  rcases look u x hx with ⟨rfl,rfl⟩ | ⟨_,hx⟩
  ·refine R.gen u _ g ht ?_
   rw [ZFv] at hg;exact hg
  ·exact R.gen u x g hx hg
 ·intro u x j hx hs
  rcases look u x hx with ⟨rfl,rfl⟩ | ⟨hu,hx⟩
  ·exact Xp (Xk hs)
  ·exact Xk (R.ro u x j hx hs)
theorem ZqG {t:Nat} {B:Zg} (h:Zcn σ t B=true):∃ x,σ[t]?=some x/\Zb x<=Zb B/\B≠.free:=by
 unfold Zcn at h
 split at h
 ·rename_i e;exact ⟨_,e,by simp [Zb],by simp⟩
 ·rename_i e;exact ⟨_,e,by simp [Zb],by simp⟩
 ·rename_i ms ns e;exact ⟨_,e,by simp only [Zb];simp only [decide_eq_true_eq] at h;omega,by simp⟩
 ·rename_i ms ns e;exact ⟨_,e,by simp only [Zb];simp only [decide_eq_true_eq] at h;omega,by simp⟩
 ·cases h
theorem Rel.unhide (R1:Rel base w0 I0 I1 β1 σ1 w1) {base':Nat->Prop} {t:Nat} (hbb:∀ k,base k->base' k) (R2:Rel base' w1 I1 I2 β2 σ2 w2) {B:Zg} (ht:Zcn σ2 t B=true) (hB:BR I2 β2 w2 t B) (hown:∀ k,Zf w2 β2 t B k->base' k/\¬base k/\∀ o,I2 k o=none) (hsee:∀ k,ZZ β2 t B k->base k) (hro:∀ u x b,u≠t->σ2[u]?=some x->ZZ β2 u x b->base b):Rel base w0 I0 I2 β2 (σ2.set t B) w2:=by
 obtain ⟨x2,ht2,hgen,hfree⟩:=ZqG ht
 have htl:t < σ2.length:=(Xc.1 ht2).1
 have look:∀ u x,(σ2.set t B)[u]?=some x->(u=t/\x=B)\/(u≠t/\σ2[u]?=some x):=fun u x h=>Zfe htl h
 refine ⟨R1.below.trans (R2.below.mono hbb),fun k o h=>(R2.old k o (hbb k h)).trans (R1.old k o h),R2.imm,?_,?_,?_,fun u g hu=>R2.fresh u g (by simpa using hu),?_,?_,R2.glob,?_⟩
 ·intro u x hx
  rcases look u x hx with ⟨rfl,rfl⟩ | ⟨_,hy⟩
  ·exact hB
  ·exact R2.blk u x hy
 ·intro u x j hx ho
  rcases look u x hx with ⟨rfl,rfl⟩ | ⟨hu,hy⟩
  ·exact (hown j ho).2
  ·have:=R2.own u x j hy ho
   exact ⟨fun h=>this.1 (hbb j h),this.2⟩
 ·intro u x u' x' j hx hx' ho ho'
  rcases look u x hx with ⟨rfl,rfl⟩ | ⟨hu,hy⟩
  ·rcases look u' x' hx' with ⟨rfl,rfl⟩ | ⟨hu',hy'⟩
   ·rfl
   ·exact absurd (hown j ho).1 (R2.own u' x' _ hy' ho').1
  ·rcases look u' x' hx' with ⟨rfl,rfl⟩ | ⟨hu',hy'⟩
   ·exact absurd (hown j ho').1 (R2.own u x _ hy ho).1
   ·exact R2.apart u x u' x' j hy hy' ho ho'
 ·intro u g hx
  rcases look u _ hx with ⟨_,h⟩ | ⟨_,hy⟩
  ·exact absurd h.symm hfree
  ·exact R2.free u g hy
 ·intro u x g hx hg
  rcases look u x hx with ⟨rfl,rfl⟩ | ⟨_,hy⟩
  ·exact R2.gen u x2 g ht2 (by omega)
  ·exact R2.gen u x g hy hg
 ·intro u x j hx hs
  rcases look u x hx with ⟨rfl,rfl⟩ | ⟨hu,hy⟩
  ·exact hsee j hs
  ·exact hro u x j hu hy hs
theorem Zna {t k:Nat} (x:Zg):Zf w β t (Zcx x) k↔Zf w β t x k:=by cases x <;> exact Iff.rfl
theorem ZuU {t k:Nat} (x:Zg):ZZ β t (Zcx x) k↔ZZ β t x k:=by cases x <;> exact Iff.rfl
theorem ZEi (x:Zg):Zb (Zcx x)=Zb x:=by cases x <;> rfl
theorem ZsM {x:Zg} (h:Zcx x=.free):x=.free:=by cases x <;> simp [Zcx] at h ⊢
theorem ZHQ {t:Nat} {x:Zg} (h:BR I β w t x):BR I β w t (Zcx x):=by
 cases x with
 | row g k xs=>obtain ⟨bi,h⟩:=h;exact ⟨xs,rfl,bi,h⟩
 | _=>exact h
theorem ZeD {bg:Bool} {t:Nat} {x:Zg} (h:(Zca bg σ)[t]?=some x):∃ y,σ[t]?=some y/\(x=y\/x=Zcx y):=by
 unfold Zca at h
 split at h
 ·rw [XN,Xi] at h
  obtain ⟨y,h1,rfl⟩:=h
  exact ⟨y,h1,Xp rfl⟩
 ·exact ⟨x,h,Xk rfl⟩
theorem Rel.bags (R:Rel base w0 I0 I β σ w) (bg:Bool):Rel base w0 I0 I β (Zca bg σ) w:=by
 have o:∀ {t k:Nat} {x y:Zg},(x=y\/x=Zcx y)->Zf w β t x k->Zf w β t y k:=by
  rintro t k x y (rfl | rfl) h
  ·exact h
  ·exact (Zna y).1 h
 refine ⟨R.below,R.old,R.imm,?_,?_,?_,?_,?_,?_,R.glob,?_⟩
 ·intro t x h
  obtain ⟨y,hy,rfl | rfl⟩:=ZeD h
  ·exact R.blk t _ hy
  ·exact ZHQ (R.blk t y hy)
 ·intro t x b h hb
  obtain ⟨y,hy,e⟩:=ZeD h
  exact R.own t y b hy (o e hb)
 ·intro t x t' x' b h h' hb hb'
  obtain ⟨y,hy,e⟩:=ZeD h
  obtain ⟨y',hy',e'⟩:=ZeD h'
  exact R.apart t y t' y' b hy hy' (o e hb) (o e' hb')
 ·intro t g h
  refine R.fresh t g ?_
  unfold Zca at h
  split at h
  ·simpa using h
  ·exact h
 ·intro t g h
  obtain ⟨y,hy,e⟩:=ZeD h
  have : y=.free:=by
   rcases e with e | e
   ·exact e.symm
   ·exact ZsM e.symm
  subst this
  exact R.free t g hy
 ·intro t x g h hg
  obtain ⟨y,hy,rfl | rfl⟩:=ZeD h
  ·exact R.gen t _ g hy hg
  ·exact R.gen t y g hy (by rw [ZEi] at hg;exact hg)
 ·intro t x b h hs
  obtain ⟨y,hy,rfl | rfl⟩:=ZeD h
  ·exact R.ro t _ b hy hs
  ·exact R.ro t y b hy ((ZuU y).1 hs)
theorem Rel.turn (R:Rel base w0 I0 I β σ w) {r:Nat} (hr:∀ t x,σ[t]?=some x->¬Zf w β t x r) (hb:¬base r) (hI:∀ o,I r o=none) (hos:w'.os=w.os) (ht:w'.tape=w.tape) (ho:w'.output=w.output) (hs:w.heap.size<=w'.heap.size) (hk:∀ k,k≠r->k < w.heap.size->w'.heap[k]?=w.heap[k]?) (hbl:KLt base w):Rel base w0 I0 I β σ w':=by
 refine R.stay (Imm.le.refl I) ⟨hos,ht,ho,hs,fun k h=>hk k (by rintro rfl;exact hb h) (hbl k h)⟩ (fun _ _ _=>rfl) ?_ ?_
 ·intro b o u hu
  have h1:=R.imm b o u hu
  have hne:b≠r:=by rintro rfl;rw [hI] at hu;cases hu
  have hlt:=Zcu h1
  rw [<-h1]
  simp only [World.cell?,hk b hne hlt]
 ·intro t x b hx hb'
  have hne:b≠r:=by rintro rfl;exact hr t x hx hb'
  exact ⟨hk b hne ((R.blk t x hx).owns_lt hb'),(R.own t x b hx hb').2⟩
theorem ZuI (m:Nat) (tm:Tms) (σ:Za):m<=(gcT m tm σ).2.length:=by
 show m<=(Zi σ m _ _ _ 0).length
 rw [ZiR]
 obtain ⟨_,r,hr⟩:=Zfo (σ:=σ) 1000 (Zu (tm.map (·.2))++(Wm m).flatMap fun t=>Zt (σ.getD t .free)) (Wm m) Xbf
 show m<=(Zq m (tm.map (·.2)) σ).length
 unfold Zq
 rw [hr]
 simp
end
theorem Zgv {I:Imm} {β:Bmap} {tm:Tms} {a:Act} {d:Nat} {u:Value} (T:TR I β tm a.tmps) (hd:tget tm d=.top):TR I β tm (a.put (some d) u).tmps:=by
 intro n
 by_cases e:d=n
 ·subst e;rw [hd];simp only [VR]
 ·rw [pgn e];exact T n
theorem ZEt {m:Nat} {live:List Nat} {tm:Tms} {σ:Za} {d:Nat} (hd:d ∉ live):tget (gcT m (keepL live tm) σ).1 d=.top:=by
 have key:∀ (l:List Nat) (xs:List AVal),d ∉ l->tget (l.zip xs) d=.top:=by
  intro l
  induction l with
  | nil=>intro xs _;rfl
  | cons x l ih =>
   intro xs h
   cases xs with
   | nil=>rfl
   | cons y ys =>
    simp only [We,tget]
    rw [if_neg (by rintro rfl;exact h (by simp))]
    exact ih ys (fun hm=>h (by simp [hm]))
 have e:(keepL live tm).map (·.1)=live:=by simp [keepL,XY,Xbx]
 show tget (((keepL live tm).map (·.1)).zip _) d=.top
 rw [e]
 exact key live _ hd
section
variable {P:Program} {O:Zz} {bf:Nat->Bool} {an an3:Ann} {base:Nat->Prop} {w0:World} {I0:Imm} {dr:Door} {m:Nat} {live:List Nat} {ms it nx ok en bid b1:Nat} {bg:Bool} {ent:List AOp} {run fin:Nat->Tms->Za->Option (Zy×Tms×Za)}
def Zbq (dr:Door) (it ms:Nat) (r b:Nat):Door:=⟨dr.D,it::ms::dr.K,fun n=>if n=it then .pointer (some ⟨r,0,none⟩) else if n=ms then .map (some b) else dr.X n⟩
def Zeu (arr:Array MapEntry) (j:Nat):Nat:=(arr.toList.getD j ⟨undef,undef,0⟩).born
theorem ZgD {es:List (AVal×AVal)}:∀ (a b:List (AVal×AVal)) (tm:Tms) (σ:Za),ZaB bf m live ms en b1 bg ent run es (a++b) tm σ=match ZaB bf m live ms en b1 bg ent run es a tm σ with
  | some (tm',σ')=>ZaB bf m live ms en b1 bg ent run es b tm' σ'
  | none=>none
 | [],b,tm,σ=>rfl
 | x::a,b,tm,σ=>by
  simp only [XC,ZaB]
  split
  ·split
   ·split
    ·exact ZgD a b _ _
    ·rfl
   ·rfl
  ·rfl
theorem ZiL {tm tm0:Tms} {σ σ0:Za} {t:Nat} {B:Zg} {es:List (AVal×AVal)} (h:ZcO m live ms tm σ=some (t,B,es,tm0,σ0)):(gcT m (keepL live tm) σ).1=tm0/\(gcT m (keepL live tm) σ).2=σ0/\ZdP σ0 (tget tm0 ms)=some (t,B,es)/\∀ p ∈ es,ZeV σ0.length p.2=true:=by
 unfold ZcO at h
 split at h
 ·rename_i t' B' es' h1
  split at h
  ·rename_i h4
   simp only [Xa,Xb] at h
   obtain ⟨rfl,rfl,rfl,rfl,rfl⟩:=h
   exact ⟨rfl,rfl,h1,fun p hp=>XF.1 h4 p hp⟩
  ·cases h
 ·cases h
theorem Zvy {tm tm':Tms} {σ σ':Za} {t:Nat} {B:Zg} {kv:AVal×AVal} (h:Za1 bf ms en b1 bg ent run t B kv tm σ=some (tm',σ')):∃ tm1 σ1 e tm2 σ2,Zbo bf ent (tput tm (some en) (.tup [kv.1,kv.2])) (σ.set t (roB B))=some (tm1,σ1)/\run σ.length tm1 σ1=some (e,tm2,σ2)/\(e=.normal\/e=.exit b1)/\Zcn σ2 t B=true/\Zb5 (σ.set t (roB B)) σ2=true/\tput tm2 (some ms) (tget tm ms)=tm'/\Zca bg (σ2.set t B)=σ':=by
 unfold Za1 at h
 split at h
 case h_2=>cases h
 rename_i tm1 σ1 h1
 split at h
 ·rename_i tm2 σ2 h2
  split at h
  ·rename_i h3
   simp only [Xh] at h3
   simp only [Xa,Xb] at h
   exact ⟨tm1,σ1,.normal,tm2,σ2,h1,h2,Xk rfl,h3.1,h3.2,h.1,h.2⟩
  ·cases h
 ·rename_i i tm2 σ2 h2
  split at h
  ·rename_i h3
   simp only [Xh,decide_eq_true_eq] at h3
   obtain ⟨rfl,h3⟩:=h3
   simp only [Xa,Xb] at h
   exact ⟨tm1,σ1,.exit _,tm2,σ2,h1,h2,Xp rfl,h3.1,h3.2,h.1,h.2⟩
  ·cases h
 ·cases h
theorem Zxq (hkp:∀ n ∈ dr.K,n ∈ an.keep) (hm:P.follows .mixedOrders=true) (hb:KLt base w0) {ops3 ops4:Array Oper} {i3 i4:Nat} {body:Code} {nxo exo eno:Oper} {lE:List Oper}
  (hbody:∀ (dr':Door) (base':Nat->Prop) (w0':World) (I0':Imm) (m':Nat),(∀ n ∈ dr'.K,n ∈ an3.keep)->KLt base' w0'->∀ {I:Imm} {β:Bmap} {tm tm':Tms} {σ σ':Za} {a:Act} {w:World} {e:Zy},StF dr' m' an3.nt base' w0' I0' I β tm σ a w->run m' tm σ=some (e,tm',σ')->∀ {Q:Exit->Act->World->Prop},ZlN dr' m' an3 base' w0' I0' I β e tm' σ' Q->body.wp P Q a w)
  (h3:ops3.toList=[nxo,exo]) (h4:ops4.toList=eno::lE)
  (hn1:nxo.op=.next (.tmp it) false) (hn2:nxo.dst=some nx) (hn3:nxo.guard=none) (hx1:exo.op=.extract (.tmp nx) 0) (hx2:exo.dst=some ok) (hx3:exo.guard=none)
  (he1:eno.op=.entry (.tmp it)) (he2:eno.dst=some en) (he3:eno.guard=none) (hcE:Zb4 P an3 ops4 lE=some ent) (hnt3:an3.nt=an.nt) (hk3:an3.keep=it::ms::an.keep)
  (d1:it < an.nt) (d2:nx < an.nt) (d3:ok < an.nt) (d4:en < an.nt) (d5:it≠ms) (d6:nx≠ms) (d7:ok≠ms) (d8:en≠ms) (d9:nx≠it) (d10:ok≠it) (d11:en≠it) (d12:nx≠ok) (hlv:∀ n ∈ live,n≠it/\n≠nx/\n≠ok/\n≠en)
  (q1:it ∉ an.keep) (q2:nx ∉ an.keep) (q3:ok ∉ an.keep) (q4:en ∉ an.keep)
  {r b clk:Nat} {arr:Array MapEntry} {es:List (AVal×AVal)} (hS:ZcP arr clk) (hne:arr.size=es.length) (hrb:r≠b) (hrbase:¬base r) (hdX:ms ∈ dr.K->dr.X ms=.map (some b))
  {tm2:Tms} {σ2:Za} {out:Zy×Tms×Za} (hall:∀ es':List (AVal×AVal),es'.Perm es->ZaZ bf m live ms en b1 bg ent run fin es es' tm2 σ2=some out)
  {I:Imm} {β:Bmap} {Q:Exit->Act->World->Prop}
  (hQ:∀ tm σ a w I' β',ZdC m live fin tm σ=some out->I.le I'->KeptE m β β'->TR I' β' (keepL live tm) a.tmps->(dr.ok a/\an.nt<=a.tmps.size)->Rel base w0 I0 I' β' σ w->Q (.exit bid) a w) :
  ∀ (n:Nat) (js:List Nat) (tm:Tms) (σ:Za) (a:Act) (w:World),n+js.length=es.length+1->js.Nodup->(∀ j ∈ js,j < es.length)->ZaB bf m live ms en b1 bg ent run es (js.map fun j=>es.getD j (.top,.top)) tm2 σ2=some (tm,σ) ->
   w.heap[r]?=some (.mapIter (some b) clk (js.map (Zeu arr)).toArray clk)->w.heap[b]?=some (.map arr clk) ->
   (∃ I' β',I.le I'/\KeptE m β β'/\TR I' β' (keepL live tm) a.tmps/\((Zbq dr it ms r b).ok a/\an.nt<=a.tmps.size)/\Rel base w0 I0 I' β' σ w/\(∀ o,I' r o=none)/\(∀ t x,σ[t]?=some x->¬Zf w β' t x r)) ->
   Code.rounds P (.seq (.region i3 ops3 false) (.seq (.cond (.tmp ok) .skip (.exit bid)) (.block b1 (.seq (.region i4 ops4 false) body)))) Q n a w:=by
 have hperm:∀ js:List Nat,js.Nodup->(∀ j ∈ js,j < es.length)->∃ rest:List Nat,(Wm es.length).Perm (js++rest):=fun js h1 h2=>ZqF js _ h1 (fun j hj=>WR.2 (h2 j hj)) Xbf
 have hpm:∀ js rest:List Nat,(Wm es.length).Perm (js++rest)->(js.map (fun j=>es.getD j (.top,.top))++rest.map fun j=>es.getD j (.top,.top)).Perm es:=by
  intro js rest h
  have:=h.map (fun j=>es.getD j ((.top,.top):AVal×AVal))
  rw [ZtX,X0] at this
  exact this.symm
 have kit:it ∉ dr.K:=fun h=>q1 (hkp _ h)
 have knx:nx ∉ dr.K:=fun h=>q2 (hkp _ h)
 have kok:ok ∉ dr.K:=fun h=>q3 (hkp _ h)
 have ken:en ∉ dr.K:=fun h=>q4 (hkp _ h)
 intro n
 induction n with
 | zero =>
  intro js tm σ a w hn hnd hlt _ _ _ _
  exfalso
  obtain ⟨rest,hr⟩:=hperm js hnd hlt
  have:=hr.length_eq
  simp at this
  omega
 | succ n ih =>
  intro js tm σ a w hn hnd hlt hf hit hmap hst
  rw [rounds_succ]
  obtain ⟨I1,β1,g1,g2,T1,⟨gd,gs⟩,R1,hIr,hown⟩:=hst
  have vit:a.tmps.getD it undef=.pointer (some ⟨r,0,none⟩):=by
   have:=gd.2 it (by simp [Zbq]);simpa [Zbq] using this
  have vms:a.tmps.getD ms undef=.map (some b):=by
   have:=gd.2 ms (by simp [Zbq]);simpa [Zbq,WV d5] using this
  refine wp_seq (wp_region_list ?_)
  rw [h3]
  refine Zg6 hn3 ?_
  unfold Oper.wp
  have hlook:=run_next_at (P:=P) w nxo.type r b clk clk _ arr clk hit hmap (fun x hx=>hS.1 x hx) (XI _)
  rcases hlook with ⟨hz,hrun⟩ | ⟨e,he,w1,hw1,hrun⟩
  ·
   have e1:(execOp a.eval nxo).run P w=.ok (.value (.tuple #[.bool false])) w:=by
    unfold execOp;rw [hn1]
    simp only [Act.eval]
    rw [vit]
    exact ZiG hrun
   rw [e1,Oper.upon_value,hn2]
   refine Zg6 hx3 ?_
   unfold Oper.wp
   have e2:(execOp (a.put (some nx) (.tuple #[.bool false])).eval exo).run P w=.ok (.value (.bool false)) w:=by
    unfold execOp;rw [hx1]
    simp only [Act.eval]
    rw [pgs (by omega)]
    exact ZiG (by simp [Instr.extract])
   rw [e2,Oper.upon_value,hx2]
   refine wpList_nil ?_
   simp only [Exit.then]
   refine wp_seq (wp_cond_false (by simp only [Act.eval];exact pgs (by rw [ZdU];omega)) (wp_exit ?_))
   simp only [Exit.then]
   obtain ⟨rest,hr⟩:=hperm js hnd hlt
   have hrest:rest=[]:=by
    cases rest with
    | nil=>rfl
    | cons x rest =>
     exfalso
     have hx:x < es.length:=WR.1 (hr.mem_iff.2 (by simp))
     obtain ⟨ex,hxa⟩:∃ ex,arr.toList[x]?=some ex:=⟨_,Xm (by simpa [hne] using hx)⟩
     have hs:=ZFM hz (arr.toList.getD x ⟨undef,undef,0⟩) (by
      rw [Xd,hxa];exact Xn hxa)
     have hnd2:(js++x::rest).Nodup:=hr.nodup_iff.1 Xbf
     have hxj:x ∉ js:=fun hm=>by
      have:=(WE.1 hnd2).2.2 x hm x (by simp)
      exact this rfl
     simp only [List.contains_toArray,Xar,decide_eq_true_eq,Xq] at hs
     obtain ⟨y,hy,hyx⟩:=hs
     have hyl:y < es.length:=hlt y hy
     obtain ⟨ey,hya⟩:∃ ey,arr.toList[y]?=some ey:=⟨_,Xm (by simpa [hne] using hyl)⟩
     have hnb:=hS.2
     have e3:(arr.toList.map (·.born))[y]?=(arr.toList.map (·.born))[x]?:=by
      rw [XN,XN,hya,hxa]
      simp only [XQ,Xa]
      unfold Zeu at hyx
      rw [Xd,Xd,hya,hxa] at hyx
      exact hyx
     have hyx2:=(List.getElem?_inj (by simpa [hne] using hyl) hnb).1 e3
     subst hyx2
     exact hxj hy
   subst hrest
   have hp:=hpm js [] hr
   have ho:=hall _ hp
   unfold ZaZ at ho
   rw [ZgD,hf] at ho
   simp only [X9,ZaB] at ho
   have okd:dr.ok ((a.put (some nx) (.tuple #[.bool false])).put (some ok) (.bool false)):=by
    refine Zi2 (Zi2 ⟨gd.1,fun j hj=>?_⟩ (fun n hn=>by injection hn with hn;subst hn;exact knx)) (fun n hn=>by injection hn with hn;subst hn;exact kok)
    have hji:j≠it:=by rintro rfl;exact kit hj
    have:=gd.2 j (by simp [Zbq,hj])
    rw [this]
    simp only [Zbq,hji,if_false]
    split
    ·rename_i e;subst e;exact (hdX hj).symm
    ·rfl
   refine hQ tm σ _ w I1 β1 ho g1 g2 ?_ ⟨okd,by rw [ZdU,ZdU];exact gs⟩ R1
   have t0:∀ d,d ∉ live->tget (keepL live tm) d=.top:=fun d hd=>by rw [Zhs,if_neg hd]
   exact Zgv (Zgv T1 (t0 nx fun h=>(hlv nx h).2.1 rfl)) (t0 ok fun h=>(hlv ok h).2.2.1 rfl)
  ·
   obtain ⟨hea,hes⟩:=ZyB he
   obtain ⟨j,hj,hje⟩:=List.getElem_of_mem hea
   have hja:arr.toList[j]?=some e:=by rw [Xm hj,hje]
   have hjl:j < es.length:=by simpa [hne] using hj
   have hbj:Zeu arr j=e.born:=by unfold Zeu;rw [Xd,hja];rfl
   have hjs:j ∉ js:=fun hm=>by
    have : (js.map (Zeu arr)).toArray.contains e.born=true:=by
     simp only [List.contains_toArray,Xar,decide_eq_true_eq,Xq]
     exact ⟨j,hm,hbj⟩
    rw [this] at hes;cases hes
   have hnd':(js++[j]).Nodup:=by
    rw [WE]
    exact ⟨hnd,by simp,fun x hx y hy=>by rw [XM] at hy;subst hy;rintro rfl;exact hjs hx⟩
   have hlt':∀ k ∈ js++[j],k < es.length:=fun k hk=>by
    rcases Xl.1 hk with hk | hk
    ·exact hlt k hk
    ·rw [XM] at hk;subst hk;exact hjl
   obtain ⟨rest,hr⟩:=hperm (js++[j]) hnd' hlt'
   have hp:=hpm (js++[j]) rest hr
   have ho:=hall _ hp
   unfold ZaZ at ho
   rw [ZgD,X0,ZgD,hf] at ho
   simp only [XA,X9] at ho
   generalize hkv:es.getD j ((.top,.top):AVal×AVal)=kv at ho
   cases hro:ZaB bf m live ms en b1 bg ent run es [kv] tm σ with
   | none=>rw [hro] at ho;cases ho
   | some q =>
   obtain ⟨tm',σ'⟩:=q
   clear ho
   have hf':ZaB bf m live ms en b1 bg ent run es ((js++[j]).map fun j=>es.getD j (.top,.top)) tm2 σ2=some (tm',σ'):=by
    rw [X0,ZgD,hf]
    simp only [XA,X9,hkv,hro]
   simp only [ZaB] at hro
   split at hro
   case h_2=>cases hro
   rename_i t B es' tm0 σ0 hhead
   split at hro
   case isFalse=>cases hro
   rename_i hes'
   subst hes'
   split at hro
   case h_2=>cases hro
   rename_i tmF σF hround
   simp only [Xa,Xb] at hro
   obtain ⟨rfl,rfl⟩:=hro
   obtain ⟨hg1,hg2,hmst,hkept⟩:=ZiL hhead
   obtain ⟨hte,hml0,hwhat⟩:=Znd hmst
   obtain ⟨tmA,σA,x,tmB,σB,hstep,hev,hx,hopq,hros,htm,hσ⟩:=Zvy hround
   have hbw:=R1.base_le hb
   have Rr:=R1.rebase hown
   obtain ⟨β0,q1',R0r,T0⟩:=Zhz Rr T1 m
   have R0:=R1.unbase R0r (fun k h=>Xk h) (fun t x b hx hs=>by
    rcases R0r.ro t x b hx hs with h | rfl
    ·exact h
    ·exact absurd hit (Zuo (R0r.blk t x hx) hs))
   have hown0:∀ t x,(gcT m (keepL live tm) σ).2[t]?=some x->¬Zf w β0 t x r:=fun t x hx ho=>(R0r.own t x r hx ho).1 (Xp rfl)
   have tt:∀ d,d ∉ live->tget (gcT m (keepL live tm) σ).1 d=.top:=fun d hd=>ZEt hd
   have hml:=ZuI m (keepL live tm) σ
   rw [hg1] at T0 tt
   rw [hg2] at R0 hown0 hml
   have vt:=T0 ms
   rw [vms] at vt
   have hB0:=R0.blk t _ hte
   obtain ⟨arr',clk',e2,⟨e3,e4,e5,e6⟩,hsb⟩:=ZrT hB0 hwhat vt
   rw [hmap] at e2
   simp only [Xa,Obj.map.injEq] at e2
   obtain ⟨rfl,rfl⟩:=e2
   have htl:t < σ0.length:=(Xc.1 hte).1
   have e1:(execOp a.eval nxo).run P w=.ok (.value (.tuple #[.bool true,e.key,e.val])) (setBlock w1 r (.mapIter (some b) clk ((js.map (Zeu arr)).toArray.push e.born) clk)):=by
    unfold execOp;rw [hn1]
    simp only [Act.eval]
    rw [vit]
    rw [Sem.run_bind,hrun];rfl
   have hw1h:w1.heap=w.heap/\w1.os=w.os/\w1.tape=w.tape/\w1.output=w.output:=by rcases hw1 with rfl | rfl <;> exact ⟨rfl,rfl,rfl,rfl⟩
   obtain ⟨wh,wo,wt,wu⟩:=hw1h
   have hrlt:r < w.heap.size:=(Xu.1 hit).1
   generalize hw3:setBlock w1 r (.mapIter (some b) clk ((js.map (Zeu arr)).toArray.push e.born) clk)=w3 at e1
   have w3r:w3.heap[r]?=some (.mapIter (some b) clk ((js.map (Zeu arr)).toArray.push e.born) clk):=by
    rw [<-hw3];simp only [setBlock,wh];rw [Array.getElem?_setIfInBounds_self_of_lt hrlt]
   have w3k:∀ k,k≠r->w3.heap[k]?=w.heap[k]?:=fun k hk=>by
    rw [<-hw3];simp only [setBlock,wh];rw [XS (WV hk)]
   have w3b:w3.heap[b]?=some (.map arr clk):=by rw [w3k b (WV hrb)];exact hmap
   have w3s:w3.heap.size=w.heap.size:=by rw [<-hw3];simp [setBlock,wh]
   have R3:Rel base w0 I0 I1 β0 σ0 w3:=R0.turn hown0 hrbase hIr (by rw [<-hw3];exact wo) (by rw [<-hw3];exact wt) (by rw [<-hw3];exact wu) (by omega) (fun k hk _=>w3k k hk) hbw
   have hown3:∀ t x,σ0[t]?=some x->¬Zf w3 β0 t x r:=fun t x hx ho=>hown0 t x hx (((R0.blk t x hx).owns_at (Bmap.le.refl β0) (fun b' hb'=>w3k b' (by rintro rfl;exact hown0 t x hx hb')) r).1 ho)
   have RH:=R3.hide hte hml0 hown3
   have hseeb:∀ k,ZZ β0 t (roB B) k->k < w.heap.size:=fun k hk=>by
    rcases Zkz (w:=w) hml0 hk with h | h
    ·exact (R0.blk t _ hte).owns_lt h
    ·exact hbw k (R0.ro t _ k hte h)
   rw [e1,Oper.upon_value,hn2]
   generalize hA1:a.put (some nx) (.tuple #[.bool true,e.key,e.val])=A1
   have s1:A1.tmps.size=a.tmps.size:=by rw [<-hA1,ZdU]
   have f1:∀ k,k≠nx->A1.tmps.getD k undef=a.tmps.getD k undef:=by intro k hk;rw [<-hA1];exact pgn (WV hk)
   have df1:A1.defers=dr.D:=by rw [<-hA1];exact gd.1
   have TA1:TR I1 β0 tm0 A1.tmps:=by rw [<-hA1];exact Zgv T0 (tt nx fun h=>(hlv nx h).2.1 rfl)
   refine Zg6 hx3 ?_
   unfold Oper.wp
   have e2:(execOp A1.eval exo).run P w3=.ok (.value (.bool true)) w3:=by
    unfold execOp;rw [hx1]
    simp only [Act.eval]
    rw [<-hA1,pgs (by omega)]
    exact ZiG (by simp [Instr.extract])
   rw [e2,Oper.upon_value,hx2]
   generalize hA2:A1.put (some ok) (.bool true)=A2
   have s2:A2.tmps.size=a.tmps.size:=by rw [<-hA2,ZdU,s1]
   have f2:∀ k,k≠ok->A2.tmps.getD k undef=A1.tmps.getD k undef:=by intro k hk;rw [<-hA2];exact pgn (WV hk)
   have df2:A2.defers=dr.D:=by rw [<-hA2];exact df1
   have TA2:TR I1 β0 tm0 A2.tmps:=by rw [<-hA2];exact Zgv TA1 (tt ok fun h=>(hlv ok h).2.2.1 rfl)
   refine wpList_nil ?_
   simp only [Exit.then]
   refine wp_seq (wp_cond_true (by simp only [Act.eval];rw [<-hA2];exact pgs (by omega)) (wp_skip ?_))
   simp only [Exit.then]
   refine wp_block (wp_seq (wp_region_list ?_))
   rw [h4]
   refine Zg6 he3 ?_
   unfold Oper.wp
   have e3':(execOp A2.eval eno).run P w3=.ok (.value (.tuple #[e.key,e.val])) w3:=by
    unfold execOp;rw [he1]
    simp only [Act.eval]
    rw [f2 it (WV d10),f1 it (WV d9),vit]
    exact ZiG (run_entry_at w3 r b clk _ arr clk e w3r w3b hea hS.2)
   rw [e3',Oper.upon_value,he2]
   generalize hA3:A2.put (some en) (.tuple #[e.key,e.val])=A3
   have s3:A3.tmps.size=a.tmps.size:=by rw [<-hA3,ZdU,s2]
   have f3:∀ k,k≠en->A3.tmps.getD k undef=A2.tmps.getD k undef:=by intro k hk;rw [<-hA3];exact pgn (WV hk)
   have df3:A3.defers=dr.D:=by rw [<-hA3];exact df2
   have hkve:VR I1 β0 (.tup [kv.1,kv.2]) (.tuple #[e.key,e.val]):=by
    have hej:es'[j]?=some kv:=by
     rw [<-hkv,Xd,Xm hjl];rfl
    obtain ⟨v1,p1,p2⟩:=Zbr e3 (i:=j) (x:=kv.1) (by rw [XN,hej];rfl)
    obtain ⟨v2,p3,p4⟩:=Zbr e4 (i:=j) (x:=kv.2) (by rw [XN,hej];rfl)
    rw [XN,hja] at p1 p3
    simp only [XQ,Xa] at p1 p3
    subst p1 p3
    simp only [VR]
    exact ⟨_,rfl,by simp only [VRs];exact ⟨_,_,rfl,p2,_,_,rfl,p4,rfl⟩⟩
   have TA3:TR I1 β0 (tput tm0 (some en) (.tup [kv.1,kv.2])) A3.tmps:=by rw [<-hA3];exact TR.put TA2 hkve (by omega)
   have ok3:(Zbq dr it ms r b).ok A3:=by
    refine ⟨df3,fun k hk=>?_⟩
    have hk':k=it\/k=ms\/k ∈ dr.K:=by simpa [Zbq] using hk
    have n1:k≠en/\k≠ok/\k≠nx:=by
     rcases hk' with rfl | rfl | hk'
     ·exact ⟨WV d11,WV d10,WV d9⟩
     ·exact ⟨WV d8,WV d7,WV d6⟩
     ·exact ⟨by rintro rfl;exact ken hk',by rintro rfl;exact kok hk',by rintro rfl;exact knx hk'⟩
    rw [f3 k n1.1,f2 k n1.2.1,f1 k n1.2.2]
    exact gd.2 k hk
   have hkp':∀ n ∈ (Zbq dr it ms r b).K,n ∈ an3.keep:=fun n hn=>by
    rw [hk3]
    simp only [Zbq,Xv] at hn ⊢
    rcases hn with h | h | h
    ·exact Xk h
    ·exact Xp (Xk h)
    ·exact Xp (Xp (hkp n h))
   have hblt:b < w.heap.size:=(Xu.1 hmap).1
   have hbH:KLt (fun k=>base k\/ZZ β0 t (roB B) k\/k=r) w3:=fun k hk=>by
    rcases hk with hk | hk | rfl
    ·have:=hbw k hk;omega
    ·have:=hseeb k hk;omega
    ·omega
   obtain ⟨cs,hruns⟩:=Zqk hstep
   rw [<-XE lE]
   refine Zko (dr:=Zbq dr it ms r b) (O:=fun _ _ _=>none) noO hkp' hbH hcE TA3 ⟨ok3,by omega⟩ RH hruns ?_
   intro A4 w4 hst4
   refine wpList_nil ?_
   simp only [Exit.then]
   have hstF:StF (Zbq dr it ms r b) σ0.length an3.nt (fun k=>base k\/ZZ β0 t (roB B) k\/k=r) w3 I1 I1 β0 tmA σA A4 w4:=by
    obtain ⟨I4,β4,k1,k2,k3⟩:=hst4
    exact ⟨I4,β4,k1,KeptE.of_le k2,k3⟩
   have next:∀ A5 w5,StF (Zbq dr it ms r b) σ0.length an3.nt (fun k=>base k\/ZZ β0 t (roB B) k\/k=r) w3 I1 I1 β0 tmB σB A5 w5->Code.rounds P (.seq (.region i3 ops3 false) (.seq (.cond (.tmp ok) .skip (.exit bid)) (.block b1 (.seq (.region i4 ops4 false) body)))) Q n A5 w5:=by
    rintro A5 w5 ⟨I5,β5,k1,k2,k3,⟨k4,k4'⟩,k5⟩
    have w5b:w5.heap[b]?=some (.map arr clk):=by rw [k5.below.block b (Xp (Xk hsb))];exact w3b
    have w5r:w5.heap[r]?=_:=(k5.below.block r (Xp (Xp rfl))).trans w3r
    have hI5r:∀ o,I5 r o=none:=fun o=>by rw [k5.old r o (Xp (Xp rfl))];exact hIr o
    have hB3:=R3.blk t _ hte
    have hsee5:=ZuQ hB3 hml0 htl k2
    have hh5:∀ k,ZZ β0 t (roB B) k->w5.heap[k]?=w3.heap[k]?:=fun k hk=>k5.below.block k (Xp (Xk hk))
    have hB5:BR I5 β5 w5 t B:=by
     rcases hwhat with ⟨_,h⟩ | ⟨j',nx',ns,nd,_,h,_,_⟩
     ·have hM:BR I1 β0 w3 t (.map es'):=by rcases h with rfl | rfl <;> exact hB3
      obtain ⟨b3,k3',c3',arr3,clk3,f1,f2,f3,f4,f5,f6⟩:=hM
      have hsb3:ZZ β0 t (roB B) b3:=by rcases h with rfl | rfl <;> simp [roB,ZZ,f1]
      have hM5:BR I5 β5 w5 t (.map es'):=⟨b3,k3',c3',arr3,clk3,k2.zero htl f1,by rw [hh5 b3 hsb3];exact f2,ZhE (fun y hy=>by obtain ⟨p,hp,rfl⟩:=Xq.1 hy;exact f5 p hp) f3,ZkP k1 k2 (fun y hy=>by obtain ⟨p,hp,rfl⟩:=Xq.1 hy;exact hkept p hp) f4,f5,f6⟩
      rcases h with rfl | rfl <;> exact hM5
     ·have hA:ArenaW I1 β0 w3 t ns:=by rcases h with rfl | rfl <;> exact hB3
      have hA5:ArenaW I5 β5 w5 t ns:=hA.keep2 htl k1 k2 (fun k hk=>hh5 k (by rcases h with rfl | rfl <;> exact hk))
      rcases h with rfl | rfl <;> exact hA5
    have R5:=R3.unhide (fun k hk=>Xk hk) k5 hopq hB5 (fun k hk=>by
     have h1:=(hsee5 k).1 (ZpA hml0 hk)
     have hown1:Zf w3 β0 t B k:=by
      cases hBk:B with
      | map es=>rw [hBk] at h1;exact h1
      | arena ns=>rw [hBk] at h1;exact h1
      | rmap es=>rw [hBk] at hk;cases hk
      | rarena ns=>rw [hBk] at hk;cases hk
      | _=>rw [hBk] at hml0;cases hml0
     refine ⟨Xp (Xk h1),(R3.own t _ k hte hown1).1,fun o=>?_⟩
     rw [k5.old k o (Xp (Xk h1))]
     exact (R3.own t _ k hte hown1).2 o) (fun k hk=>by
     have h1:ZZ β0 t (roB B) k:=(hsee5 k).1 (by
      cases hBk:B with
      | rmap es=>rw [hBk] at hk;exact hk
      | rarena ns=>rw [hBk] at hk;exact hk
      | _=>rw [hBk] at hk;cases hk)
     refine R3.ro t _ k hte ?_
     cases hBk:B with
     | rmap es=>rw [hBk] at h1;exact h1
     | rarena ns=>rw [hBk] at h1;exact h1
     | _=>rw [hBk] at hk;cases hk) (fun u x b' hne hx hs=>by
     cases x with
     | rmap es2 =>
      obtain ⟨y,h2,h1⟩:=ZiW hros hx rfl
      rw [Xs (WV hne)] at h2
      cases y <;> simp [ZcU] at h1
      rename_i es3
      obtain ⟨b2,k2',c2',_,_,e1,_⟩:=R0.blk u _ h2
      have e2:=k2.zero (Xc.1 h2).1 e1
      refine R0.ro u _ b' h2 ?_
      simp only [ZZ,e2] at hs
      simpa [ZZ,e1] using hs
     | rarena ns2 =>
      obtain ⟨y,h2,h1⟩:=ZiW hros hx rfl
      rw [Xs (WV hne)] at h2
      cases y <;> simp [ZcU] at h1
      rename_i ns3
      have hA3:ArenaW I1 β0 w u ns3:=R0.blk u _ h2
      have hs3:=hA3.keepE (Xc.1 h2).1 k1 k2
      obtain ⟨g,g1,g2,g3⟩:=hs
      refine R0.ro u _ b' h2 ⟨g,g1,by omega,?_⟩
      rw [<-hs3 g g1 (by omega)]
      exact g3
     | _=>cases hs)
    replace R5:=R5.bags bg
    rw [hσ] at R5
    refine ih (js++[j]) tmF σF A5 w5 (by rw [Xx,Wv];omega) hnd' hlt' hf' ?_ w5b ⟨I5,β5,g1.trans k1,?_,?_,⟨k4,by omega⟩,R5,hI5r,?_⟩
    ·rw [w5r,X0,XA,X9,hbj,List.push_toArray]
    ·refine (g2.trans q1').trans (fun u hu g bi hg hbi=>k2 u (by omega) g bi hg hbi)
    ·refine TR.keep (fun u=>?_) live
     rw [<-htm]
     show VR I5 β5 (tget (tins ms (tget tm0 ms) tmB) u) _
     rw [Zhl]
     split
     ·rename_i e;subst e
      have : A5.tmps.getD ms undef=.map (some b):=by have:=k4.2 ms (by simp [Zbq]);simpa [Zbq,WV d5] using this
      rw [this]
      rcases hwhat with ⟨h,_⟩ | ⟨j',nx',ns,nd,h,_,_,_⟩
      ·rw [h] at vt ⊢
       simp only [VR] at vt ⊢
       obtain ⟨b3,k3',c3',f1,f2⟩:=vt
       exact ⟨b3,k3',c3',k2.zero htl f1,f2⟩
      ·rw [h] at vt ⊢
       simp only [VR] at vt ⊢
       obtain ⟨b3,k3',c3',f1,f2⟩:=vt
       exact ⟨b3,k3',c3',k2 t htl _ _ (Xp (by unfold ZB;omega)) f1,f2⟩
     ·exact k3 u
    ·intro u y hy hoy
     rw [<-hσ] at hy
     obtain ⟨y',hy',hye⟩:=ZeD hy
     have hoy':Zf w5 β5 u y' r:=by
      rcases hye with rfl | rfl
      ·exact hoy
      ·exact (Zna y').1 hoy
     obtain ⟨x2,hx2,_,_⟩:=ZqG hopq
     rcases Zfe (Xc.1 hx2).1 hy' with ⟨rfl,rfl⟩ | ⟨_,hy'⟩
     ·have h1:=(hsee5 r).1 (ZpA hml0 hoy')
      rcases Zkz (w:=w3) hml0 h1 with h | h
      ·exact hown3 u _ hte h
      ·exact hrbase (R3.ro u _ r hte h)
     ·exact (k5.own u y' r hy' hoy').1 (Xp (Xp rfl))
   refine hbody (Zbq dr it ms r b) (fun k=>base k\/ZZ β0 t (roB B) k\/k=r) w3 I1 σ0.length hkp' hbH hstF hev ?_
   rcases hx with rfl | rfl
   ·intro A5 w5 hs
    simp only [Exit.inBlock,Exit.then]
    exact next A5 w5 hs
   ·intro A5 w5 hs
    simp only [Exit.inBlock,if_true,Exit.then]
    exact next A5 w5 hs
end
end
section
open Go.RowKit
section
variable {P:Program} {O:Zz} {bf:Nat->Bool} {an:Ann} {base:Nat->Prop} {w0:World} {I0:Imm} {dr:Door}
theorem StF.cond {m:Nat} {I:Imm} {β:Bmap} {tm:Tms} {σ:Za} {a:Act} {w:World} (h:StF dr m an.nt base w0 I0 I β tm σ a w) {c:Operand} {y:Opd} (hc:ZL c=some y) {b:Bool} (hv:y.ev tm=.bool b):a.eval c=.bool b:=by
 obtain ⟨I',β',_,_,T,_,_⟩:=h
 have:=ZJ T hc
 rw [hv] at this
 simpa only [VR] using this
def Zj7 (P:Program) (O:Zz) (bf:Nat->Bool) (n:Nat) (c:Code):Prop:=∀ (an:Ann) (dr:Door) (base:Nat->Prop) (w0:World) (I0:Imm) (m:Nat),(∀ n ∈ dr.K,n ∈ an.keep)->KLt base w0->∀ ⦃ac:Zc⦄,Zai P an c=ac->∀ ⦃I:Imm⦄ ⦃β:Bmap⦄ ⦃tm tm':Tms⦄ ⦃σ σ':Za⦄ ⦃a:Act⦄ ⦃w:World⦄ ⦃e:Zy⦄,StF dr m an.nt base w0 I0 I β tm σ a w->Zx O bf m n ac tm σ=some (e,tm',σ') ->
  ∀ ⦃Q:Exit->Act->World->Prop⦄,ZlN dr m an base w0 I0 I β e tm' σ' Q->c.wp P Q a w
theorem ZpQ {P:Program} {an:Ann} {a b:Code} {ck:List Nat->Zc} {r:Zc} (h:Zgc P an a b ck=some r):∃ pre live ms en b1 bg ent c2,r=.range pre live ms en b1 bg ent c2 .skip:=by
 unfold Zgc at h
 repeat' split at h
 all_goals first
  | (simp only [Xa] at h;exact ⟨_,_,_,_,_,_,_,_,h.symm⟩)
  | cases h
theorem ZuC {m:Nat} {live:List Nat} {ms en b1:Nat} {bg:Bool} {ent:List AOp} {run fin:Nat->Tms->Za->Option (Zy×Tms×Za)} {tm:Tms} {σ:Za} {out:Zy×Tms×Za} (h:ZbK bf m live ms en b1 bg ent run fin tm σ=some out):∃ t B es tm0 σ0,ZcO m live ms tm σ=some (t,B,es,tm0,σ0)/\∀ es':List (AVal×AVal),es'.Perm es->ZaZ bf m live ms en b1 bg ent run fin es es' tm σ=some out:=by
 unfold ZbK at h
 split at h
 ·cases h
 ·rename_i t B tm0 σ0 hh
  refine ⟨t,B,[],tm0,σ0,hh,fun es' hp=>?_⟩
  rw [Xbb.eq_nil hp]
  obtain ⟨h1,h2,_⟩:=ZiL hh
  simp only [ZaZ,ZaB,ZdC,h1,h2]
  exact h
 ·rename_i t B kv tm0 σ0 hh
  refine ⟨t,B,[kv],tm0,σ0,hh,fun es' hp=>?_⟩
  rw [List.perm_singleton.1 hp]
  split at h
  ·rename_i tm' σ' hr
   simp only [ZaZ,ZaB,hh,if_true,hr]
   exact h
  ·cases h
 ·rename_i t B es tm0 σ0 hn1 hn2 hh
  refine ⟨t,B,es,tm0,σ0,hh,?_⟩
  unfold Zfg at h
  split at h
  case isFalse=>cases h
  rename_i hex
  have hall:=hex.choose_spec
  injection h with h
  rw [h] at hall
  exact hall
theorem ZrD (hO:Z1 P O) (hm:P.follows .mixedOrders=true) (n:Nat) (hkp:∀ n ∈ dr.K,n ∈ an.keep) (hb:KLt base w0) {x y:Code} (IH:∀ c',Xa3 c' < Xa3 (Code.seq x y)->Zj7 P O bf n c') {m:Nat} {pre:List AOp} {live:List Nat} {ms en b1:Nat} {bg:Bool} {ent:List AOp} {c2 c3 rest:Zc}
  (hr:Zgc P an x y (fun K=>Zai P { an with keep:=K++an.keep } y)=some (.range pre live ms en b1 bg ent c2 c3)) {I:Imm} {β:Bmap} {tm:Tms} {σ:Za} {a:Act} {w:World} {out:Zy×Tms×Za} (hst:StF dr m an.nt base w0 I0 I β tm σ a w) (h:Zx O bf m n (.range pre live ms en b1 bg ent c2 rest) tm σ=some out)
  {Q:Exit->Act->World->Prop} (hQ:∀ tmE σE aE wE,StF dr m an.nt base w0 I0 I β tmE σE aE wE->Zx O bf m n rest tmE σE=some out->Q .normal aE wE):(Code.seq x y).wp P Q a w:=by
 unfold Zgc at hr
 split at hr
 case h_2=>cases hr
 rename_i i1 ops1 bid i3 ops3 ok bid' bb i4 ops4 body
 split at hr
 case h_2=>cases hr
 rename_i rg nxo exo eno lE hlast h3 h4
 split at hr
 case h_2=>cases hr
 rename_i t ms' it it1 nx hr1 hr2 hn1 hn2
 split at hr
 case h_2=>cases hr
 rename_i nx1 ok1 it2 en' hx1 hx2 he1 he2
 split at hr
 case h_2=>cases hr
 rename_i kt et pre' ent' i5 l5 s5 s6 b5 s7 c2' hu hpre hent hcb
 split at hr
 case isFalse=>cases hr
 rename_i hcond
 simp only [Xa,Zc.range.injEq] at hr
 obtain ⟨rfl,hlive,rfl,rfl,rfl,rfl,rfl,rfl,rfl⟩:=hr
 simp only [Xh,decide_eq_true_eq,Option.isNone_iff_eq_none,Wb,Xar,decide_eq_false_iff_not] at hcond
 obtain ⟨⟨⟨⟨⟨⟨⟨g1,g2⟩,g3⟩,g4⟩,⟨⟨⟨⟨z1,z2⟩,z3⟩,z4⟩,z5⟩⟩,⟨⟨d1,d2⟩,d3⟩,d4⟩,⟨⟨⟨⟨⟨⟨⟨d5,d6⟩,d7⟩,d8⟩,d9⟩,d10⟩,d11⟩,d12⟩⟩,⟨⟨q1,q2⟩,q3⟩,q4⟩:=hcond
 subst z1 z2 z3 z4 z5
 have hc2:Zai P { an with keep:=it2::ms'::an.keep } body=c2':=by
  simp only [Zai,Zh5,Zgc] at hcb
  simp only [Zc.block.injEq,Zc.loop.injEq,Zc.seq.injEq] at hcb
  obtain ⟨_,_,_,_,_,hcb⟩:=hcb
  split at hcb
  ·rename_i r hr
   obtain ⟨_,_,_,_,_,_,_,_,rfl⟩:=ZpQ (P:=P) (an:={ an with keep:=it2::ms'::an.keep }) (a:=.region i4 ops4 false) (b:=body) (ck:=fun K=>Zai P { an with keep:=K++it2::ms'::an.keep } body) hr
   cases hcb
  ·simp only [Zc.seq.injEq] at hcb
   exact hcb.2
 simp only [Zx] at h
 split at h
 case h_2=>cases h
 rename_i tm1 σ1 hst1
 obtain ⟨t0,B,es,tm0,σ0,hhead,hall⟩:=ZuC h
 obtain ⟨hg1,hg2,hmst,hkept⟩:=ZiL hhead
 obtain ⟨hte,hml0,hwhat⟩:=Znd hmst
 obtain ⟨I1,β1,j1,j2,T1,⟨gd,gs⟩,R1⟩:=hst
 refine wp_seq (wp_region_list ?_)
 have hl1:ops1.toList=ops1.toList.dropLast++[rg]:=by
  obtain ⟨ys,hys⟩:=List.getLast?_eq_some_iff.1 hlast
  rw [hys,List.dropLast_concat]
 rw [hl1]
 obtain ⟨cs,hruns⟩:=Zqk hst1
 refine Zko (dr:=dr) (O:=fun _ _ _=>none) noO hkp hb hpre T1 ⟨gd,gs⟩ R1 hruns ?_
 rintro A2 w2 ⟨I2,β2,k1,k2,T2,⟨kd,ks⟩,R2⟩
 obtain ⟨β3,p1,R3g,T3⟩:=Zhz R2 (T2.keep live) m
 rw [hg2] at R3g
 rw [hg1] at T3
 have vt:=T3 ms'
 obtain ⟨b,vms⟩:∃ b,A2.tmps.getD ms' undef=.map (some b):=by
  rcases hwhat with ⟨h,_⟩ | ⟨j',nx',ns,nd,h,_,_,_⟩
  ·rw [h] at vt;simp only [VR] at vt;obtain ⟨b,_,_,_,e⟩:=vt;exact ⟨b,e⟩
  ·rw [h] at vt;simp only [VR] at vt;obtain ⟨b,_,_,_,e⟩:=vt;exact ⟨b,e⟩
 rw [vms] at vt
 obtain ⟨arr,clk,e2,⟨e3,e4,e5,e6⟩,_⟩:=ZrT (R3g.blk t0 _ hte) hwhat vt
 refine Zg6 g1 ?_
 unfold Oper.wp
 have er:(execOp A2.eval rg).run P w2=.ok (.value (.pointer (some ⟨w2.heap.size,0,none⟩))) { w2 with heap:=w2.heap.push (.mapIter (some b) clk #[] clk) }:=by
  unfold execOp;rw [hr1]
  simp only [Act.eval]
  rw [vms]
  simp [Instr.range,run_underlying hu,Zcp e2]
 rw [er,Oper.upon_value,hr2]
 refine wpList_nil ?_
 simp only [Exit.then]
 have hbw:=R2.base_le hb
 have hblt:b < w2.heap.size:=(Xu.1 e2).1
 generalize hr:w2.heap.size=rr at *
 have hown:∀ t x,σ1[t]?=some x->¬Zf w2 β2 t x rr:=fun t x hx ho=>by
  have:=(R2.blk t x hx).owns_lt ho;omega
 have hrb:¬base rr:=fun h=>by have:=hbw rr h;omega
 have hIr:∀ o,I2 rr o=none:=fun o=>by
  cases hi:I2 rr o with
  | none=>rfl
  | some u =>
   have:=Zcu (R2.imm rr o u hi)
   omega
 generalize hw3:({ w2 with heap:=w2.heap.push (.mapIter (some b) clk #[] clk) }:World)=w3
 have w3k:∀ k,k < w2.heap.size->w3.heap[k]?=w2.heap[k]?:=fun k hk=>by
  rw [<-hw3];simp only;rw [Array.getElem?_push];rw [if_neg (by omega)]
 have R3:Rel base w0 I0 I2 β2 σ1 w3:=R2.turn hown hrb hIr (by rw [<-hw3]) (by rw [<-hw3]) (by rw [<-hw3]) (by rw [<-hw3];simp) (fun k _ hk=>w3k k hk) hbw
 have hown3:∀ t x,σ1[t]?=some x->¬Zf w3 β2 t x rr:=fun t x hx ho=>hown t x hx (((R2.blk t x hx).owns_at (Bmap.le.refl β2) (fun b' hb'=>w3k b' ((R2.blk t x hx).owns_lt hb')) rr).1 ho)
 refine wp_block (wp_loop_rounds (es.length+1) ?_)
 have hlen:arr.size=es.length:=by
  have:=ZQ e3
  simpa using this.symm
 have hlv:∀ n ∈ live,n≠it2/\n≠nx1/\n≠ok1/\n≠en':=by
  intro n hn
  rw [<-hlive] at hn
  simp only [Zrg,Xl,X1,Xh,Wb,Xar,decide_eq_false_iff_not,Xv,List.not_mem_nil,or_false,not_or] at hn
  rcases hn with (⟨_,_,hn⟩ | rfl) | ⟨_,_,hn⟩
  ·exact ⟨hn.1,hn.2.1,hn.2.2.1,hn.2.2.2⟩
  ·exact ⟨WV d5,WV d6,WV d7,WV d8⟩
  ·exact ⟨hn.1,hn.2.1,hn.2.2.1,hn.2.2.2⟩
 refine Zxq (an:=an) (an3:={ an with keep:=it2::ms'::an.keep }) (base:=base) (w0:=w0) (I0:=I0) (m:=m) (live:=live) (ms:=ms') (it:=it2) (nx:=nx1) (ok:=ok1) (en:=en') (dr:=dr) hkp hm hb
  (fun dr' base' w0' I0' m' hk' hb' I β tm tm' σ σ' a w e hs he Q hQ=>IH body (by simp;omega) { an with keep:=it2::ms'::an.keep } dr' base' w0' I0' m' hk' hb' hc2 hs he hQ)
  h3 h4 hn1 hn2 g2 hx1 hx2 g3 he1 he2 g4 hent rfl rfl d1 d2 d3 d4 d5 d6 d7 d8 d9 d10 d11 d12 hlv q1 q2 q3 q4
  (r:=rr) (b:=b) (arr:=arr) (clk:=clk) (es:=es) (tm2:=tm1) (σ2:=σ1) (out:=out) (I:=I2) (β:=β2) e6 hlen (by omega) hrb (fun hk=>by rw [<-vms];exact (kd.2 ms' hk).symm) hall ?_ (es.length+1) [] tm1 σ1 _ w3 (by simp) (by simp) (by simp) rfl ?_ ?_ ?_
 ·
  intro tm σx a wx I' β' hend i1 i2 jT jd jR
  simp only [Exit.inBlock,if_true]
  obtain ⟨β4,o1,o2,o3⟩:=Zhz jR jT m
  exact hQ _ _ a wx ⟨I',β4,(j1.trans k1).trans i1,((j2.trans (KeptE.of_le k2)).trans i2).trans o1,o3,jd,o2⟩ hend
 ·rw [<-hw3,<-hr];simp
 ·rw [w3k b (by omega)];exact e2
 ·refine ⟨I2,β2,Imm.le.refl _,KeptE.refl _ _,?_,⟨⟨by rw [Zno];exact kd.1,fun k hk=>?_⟩,by rw [ZdU];omega⟩,R3,hIr,hown3⟩
  ·refine Zgv (T2.keep live) ?_
   rw [Zhs,if_neg]
   exact fun h=>(hlv it2 h).1 rfl
  ·have hk':k=it2\/k=ms'\/k ∈ dr.K:=by simpa [Zbq] using hk
   by_cases hki:k=it2
   ·subst hki
    rw [pgs (Nat.lt_of_lt_of_le d1 ks)];simp [Zbq]
   ·rw [pgn (WV hki)]
    by_cases hkm:k=ms'
    ·subst hkm
     rw [vms];simp [Zbq,WV d5]
    ·rcases hk' with h | h | h
     ·exact absurd h hki
     ·exact absurd h hkm
     ·rw [kd.2 k h];simp [Zbq,hki,hkm]
theorem ZoJ (hO:Z1 P O) (hm:P.follows .mixedOrders=true) (n:Nat):∀ (k:Nat) (c:Code),Xa3 c<=k->Zj7 P O bf n c
 | 0,c,hk=>by cases c <;> simp at hk
 | k+1,c,hk=>by
  have IH:∀ c',Xa3 c' < Xa3 c->Zj7 P O bf n c':=fun c' h=>ZoJ hO hm n k c' (by omega)
  intro an dr base w0 I0 m hkp hb
  cases c with
  | skip =>
   intro ac hc I β tm tm' σ σ' a w e hst h Q hQ
   simp only [Zai] at hc;subst hc
   simp only [Zx,Xa,Xb] at h
   obtain ⟨rfl,rfl,rfl⟩:=h
   exact wp_skip (hQ a w hst)
  | region id ops draw =>
   intro ac hc I β tm tm' σ σ' a w e hst h Q hQ
   obtain ⟨asl,chk,live,rfl⟩:∃ asl chk live,ac=.region asl chk live:=by
    simp only [Zai] at hc
    split at hc
    ·split at hc
     ·split at hc
      ·exact ⟨_,_,_,hc.symm⟩
      ·subst hc;simp only [Zx] at h;cases h
     ·exact ⟨_,_,_,hc.symm⟩
    ·subst hc;simp only [Zx] at h;cases h
   simp only [Zx] at h
   obtain ⟨I1,β1,g1,g2,g3,g4,g5⟩:=hst
   have up:∀ {tm:Tms} {σ:Za} {a':Act} {w':World},StR dr an.nt base w0 I0 I1 β1 tm σ a' w'->StF dr m an.nt base w0 I0 I β tm σ a' w':=by
    rintro tm σ a' w' ⟨I2,β2,k1,k2,k3⟩
    exact ⟨I2,β2,g1.trans k1,g2.trans (KeptE.of_le k2),k3⟩
   refine ZvN hO hkp hm hb hc (⟨I1,β1,Imm.le.refl I1,Bmap.le.refl β1,g3,g4,g5⟩:StR dr an.nt base w0 I0 I1 β1 tm σ a w) h ?_
   cases e with
   | normal=>exact fun a' w' hs=>hQ a' w' (up hs)
   | exit id=>exact fun a' w' hs=>hQ a' w' (up hs)
   | ret=>exact fun a' w' hs=>hQ a' w' (up hs)
   | panic x =>
    rintro a' u w' hd ⟨I2,β2,k1,k2,k3,k4⟩
    exact hQ a' u w' hd ⟨I2,β2,g1.trans k1,g2.trans (KeptE.of_le k2),k3,k4⟩
  | seq x y =>
   intro ac hc I β tm tm' σ σ' a w e hst h Q hQ
   have ihx:=IH x (by simp;omega) an dr base w0 I0 m hkp hb
   have ihy:=IH y (by simp;omega) an dr base w0 I0 m hkp hb
   simp only [Zai] at hc
   unfold Zh5 at hc
   split at hc
   ·rename_i r hr
    subst hc
    obtain ⟨pre,live,ms,en,b1,bg,ent,c2,rfl⟩:=ZpQ hr
    exact ZrD hO hm n hkp hb (fun c' h'=>IH c' h') hr hst h (fun tmE σE aE wE hsE hfE=>by
     simp only [Zx,Xa,Xb] at hfE
     obtain ⟨rfl,rfl,rfl⟩:=hfE
     exact hQ aE wE hsE)
   rename_i hnone
   split at hc
   ·rename_i i1 o1 dd1 bid1 cc1 pre live ms en b1 bg ent c2 hca
    subst hc
    refine wp_seq ?_
    have hca':=hca
    simp only [Zai] at hca'
    unfold Zh5 at hca'
    split at hca'
    ·rename_i r hr
     subst hca'
     exact ZrD hO hm n hkp hb (fun c' h'=>IH c' (Nat.lt_trans h' (by simp;omega))) hr hst h (fun tmE σE aE wE hsE hfE=>ihy rfl hsE hfE hQ)
    ·split at hca'
     ·rename_i heq _;cases heq
     ·cases hca'
   subst hc
   simp only [Zx] at h
   refine wp_seq ?_
   split at h
   ·rename_i tm1 σ1 h1
    exact ihx rfl hst h1 (fun a' w' hs=>ihy rfl hs h hQ)
   ·rename_i hne
    refine ihx rfl hst h ?_
    cases e with
    | normal=>exact absurd h (hne _ _)
    | exit id=>exact hQ
    | ret=>exact hQ
    | panic x=>exact hQ
  | cond c x y =>
   intro ac hc I β tm tm' σ σ' a w e hst h Q hQ
   have ihx:=IH x (by simp;omega) an dr base w0 I0 m hkp hb
   have ihy:=IH y (by simp;omega) an dr base w0 I0 m hkp hb
   simp only [Zai] at hc
   split at hc
   ·rename_i c' hcc
    subst hc
    simp only [Zx] at h
    split at h
    ·rename_i hv
     exact wp_cond_true (hst.cond hcc hv) (ihx rfl hst h hQ)
    ·rename_i hv
     exact wp_cond_false (hst.cond hcc hv) (ihy rfl hst h hQ)
    ·cases h
   ·subst hc;simp only [Zx] at h;cases h
  | block id x =>
   intro ac hc I β tm tm' σ σ' a w e hst h Q hQ
   have ih:=IH x (by first | (simp;omega) | simp) an dr base w0 I0 m hkp hb
   simp only [Zai] at hc
   subst hc
   have hx:Zai P an x=Zai P an x:=rfl
   simp only [Zx] at h
   refine wp_block ?_
   split at h
   ·rename_i i tm1 σ1 h1
    refine ih hx hst h1 ?_
    intro a' w' hs
    simp only [Exit.inBlock]
    split at h
    ·rename_i hid
     simp only [Xa,Xb] at h
     obtain ⟨rfl,rfl,rfl⟩:=h
     rw [if_pos hid]
     exact hQ a' w' hs
    ·rename_i hid
     simp only [Xa,Xb] at h
     obtain ⟨rfl,rfl,rfl⟩:=h
     rw [if_neg hid]
     exact hQ a' w' hs
   ·rename_i hne
    refine ih hx hst h ?_
    cases e with
    | normal=>exact hQ
    | exit id=>exact absurd h (hne _ _ _)
    | ret=>exact hQ
    | panic x=>exact hQ
  | loop x =>
   intro ac hc I β tm tm' σ σ' a w e hst h Q hQ
   have ih:=IH x (by first | (simp;omega) | simp) an dr base w0 I0 m hkp hb (rfl:Zai P an x=Zai P an x)
   simp only [Zai] at hc
   subst hc
   have hx:Zai P an x=Zai P an x:=rfl
   simp only [Zx] at h
   refine wp_loop_rounds n ?_
   have key:∀ k {tm:Tms} {σ:Za} {a:Act} {w:World},StF dr m an.nt base w0 I0 I β tm σ a w->Zcw m (an.ll (Zd6 x)) (Zx O bf m n (Zai P an x)) k tm σ=some (e,tm',σ')->Code.rounds P x Q k a w:=by
    intro k
    induction k with
    | zero=>intro tm σ a w _ h;simp only [Zcw] at h;cases h
    | succ k ihk =>
     intro tm σ a w hst h
     rw [rounds_succ]
     simp only [Zcw] at h
     obtain ⟨I1,β1,k1,k2,k3,k4,k5⟩:=hst
     obtain ⟨β2,q1,q2,q3⟩:=Zhz k5 (k3.keep (an.ll (Zd6 x))) m
     have hst0:StF dr m an.nt base w0 I0 I β (gcT m (keepL (an.ll (Zd6 x)) tm) σ).1 (gcT m (keepL (an.ll (Zd6 x)) tm) σ).2 a w:=⟨I1,β2,k1,k2.trans q1,q3,k4,q2⟩
     split at h
     ·rename_i tm1 σ1 h1
      exact ih hst0 h1 (fun a' w' hs=>ihk hs h)
     ·rename_i hne
      refine ih hst0 h ?_
      cases e with
      | normal=>exact absurd h (hne _ _)
      | exit id=>exact hQ
      | ret=>exact hQ
      | panic x=>exact hQ
   exact key n hst h
  | exit id =>
   intro ac hc I β tm tm' σ σ' a w e hst h Q hQ
   simp only [Zai] at hc;subst hc
   simp only [Zx,Xa,Xb] at h
   obtain ⟨rfl,rfl,rfl⟩:=h
   exact wp_exit (hQ a w hst)
  | ret =>
   intro ac hc I β tm tm' σ σ' a w e hst h Q hQ
   simp only [Zai] at hc;subst hc
   simp only [Zx,Xa,Xb] at h
   obtain ⟨rfl,rfl,rfl⟩:=h
   exact wp_ret (hQ a w hst)
  | rangeFunc f ps x y=>intro ac hc I β tm tm' σ σ' a w e hst h;simp only [Zai] at hc;subst hc;simp only [Zx] at h;cases h
  | scope x =>
   intro ac hc I β tm tm' σ σ' a w e hst h Q hQ
   have ih:=IH x (by first | (simp;omega) | simp) an dr base w0 I0 m hkp hb
   simp only [Zai] at hc
   refine wp_scope_straight (ih hc hst h ?_)
   cases e with
   | normal=>exact hQ
   | exit id=>exact hQ
   | ret=>exact hQ
   | panic x=>exact hQ
  | label l =>
   intro ac hc I β tm tm' σ σ' a w e hst h Q hQ
   simp only [Zai] at hc;subst hc
   simp only [Zx,Xa,Xb] at h
   obtain ⟨rfl,rfl,rfl⟩:=h
   exact wp_label (hQ a w hst)
  | goto l=>intro ac hc I β tm tm' σ σ' a w e hst h;simp only [Zai] at hc;subst hc;simp only [Zx] at h;cases h
  | refuse why=>intro ac hc I β tm tm' σ σ' a w e hst h;simp only [Zai] at hc;subst hc;simp only [Zx] at h;cases h
theorem ZIJ (hO:Z1 P O) (hkp:∀ n ∈ dr.K,n ∈ an.keep) (hm:P.follows .mixedOrders=true) (hb:KLt base w0) (m n:Nat) {c:Code} {ac:Zc} (hc:Zai P an c=ac) {I:Imm} {β:Bmap} {tm tm':Tms} {σ σ':Za} {a:Act} {w:World} {e:Zy} (hst:StF dr m an.nt base w0 I0 I β tm σ a w) (h:Zx O bf m n ac tm σ=some (e,tm',σ'))
  {Q:Exit->Act->World->Prop} (hQ:ZlN dr m an base w0 I0 I β e tm' σ' Q):c.wp P Q a w :=
 ZoJ hO hm n (Xa3 c) c (XI _) an dr base w0 I0 m hkp hb hc hst h hQ
theorem ZIN {I:Imm} {β:Bmap} {σ σ':Za} {k:Option Nat} {a x:AVal} {c:Cls} {v:Value} (ha:VR I β a v) (h:ldA σ k a=some (x,σ',c)):∃ ad,v=.pointer (some ad):=by
 unfold ldA at h
 split at h
 ·simp only [VR] at ha;obtain ⟨b,k,c,_,rfl⟩:=ha;exact ⟨_,rfl⟩
 ·simp only [VR] at ha;obtain ⟨b,k,c,_,rfl⟩:=ha;exact ⟨_,rfl⟩
 ·simp only [VR] at ha;obtain ⟨b,off,rfl,_⟩:=ha;exact ⟨_,rfl⟩
 ·simp only [VR] at ha;obtain ⟨b,k,c,_,rfl⟩:=ha;exact ⟨_,rfl⟩
 ·cases h
def ZgH (tmps:Array Value):ResultVar->Sem Value
 | .tmp t=>pure (tmps.getD t undef)
 | .cell a t=>do loadVar t (<-asAddr (tmps.getD a undef))
theorem Zkf {I:Imm} {β:Bmap} {tm:Tms} {σ:Za} {w:World} {tmps:Array Value} (T:TR I β tm tmps) (R:Rel base w0 I0 I β σ w):∀ {rs:List ResultVar} {asl:List ZeX} {xs:List AVal},Zez P rs=some asl->resAll tm σ asl=some xs ->
  ∃ vs:List Value,(rs.mapM (ZgH tmps)).run P w=.ok vs w/\VRs I β xs vs
 | [],asl,xs,hc,h=>by
  simp only [Zez,Xa] at hc;subst hc
  simp only [resAll,Xa] at h;subst h
  exact ⟨[],by simp,by simp only [VRs]⟩
 | r::rs,asl,xs,hc,h=>by
  have getD_eq:∀ t,VR I β (tget tm t) (tmps.getD t undef):=T
  cases r with
  | tmp t =>
   simp only [Zez,Xi] at hc
   obtain ⟨as',has,rfl⟩:=hc
   simp only [resAll,resOne] at h
   split at h
   ·rename_i ys hys
    injection h with h;subst h
    obtain ⟨vs,h1,h2⟩:=Zkf T R has hys
    exact ⟨tmps.getD t undef::vs,by simp only [Xbt,ZgH,Sem.run_bind,Sem.run_pure,Result.andThen_ok,h1],by simp only [VRs];exact ⟨_,_,rfl,getD_eq t,h2⟩⟩
   ·cases h
  | cell a t =>
   simp only [Zez] at hc
   split at hc
   ·rename_i k as' hk has
    injection hc with hc;subst hc
    simp only [resAll,resOne] at h
    split at h
    ·rename_i v hv
     split at h
     ·rename_i ys hys
      injection h with h;subst h
      obtain ⟨vs,h1,h2⟩:=Zkf T R has hys
      split at hv
      ·rename_i v' σ1 c1 hld
       injection hv with hv;subst hv
       obtain ⟨u,hu1,hu2,_⟩:=ZpG hk R (getD_eq a) hld
       obtain ⟨ad,had⟩:=ZIN (getD_eq a) hld
       have hlv:(loadVar t ad).run P w=.ok u w:=by
        rw [had] at hu1
        simpa [Instr.loadAt,Instr.sureAddr] using hu1
       refine ⟨u::vs,?_,by simp only [VRs];exact ⟨_,_,rfl,hu2,h2⟩⟩
       simp only [Xbt,ZgH,had,asAddr,Sem.run_bind,Sem.run_pure,Result.andThen_ok,hlv,h1]
      ·cases hv
     ·cases h
    ·cases h
   ·cases hc
theorem ZwS {I:Imm} {β:Bmap} {tm:Tms} {σ:Za} {w:World} {tmps:Array Value} (T:TR I β tm tmps) (R:Rel base w0 I0 I β σ w) {fn:Func} {asl:List ZeX} {x:AVal} (hc:Zez P fn.results.toList=some asl) (h:resA tm σ asl=some x):∃ v,(results fn tmps).run P w=.ok v w/\VR I β x v:=by
 unfold resA at h
 have run:∀ {xs:List AVal},resAll tm σ asl=some xs->∃ vs:List Value,(results fn tmps).run P w=.ok (if h:vs.toArray.size=1 then vs.toArray[0] else .tuple vs.toArray) w/\VRs I β xs vs:=by
  intro xs hx
  obtain ⟨vs,h1,h2⟩:=Zkf T R hc hx
  refine ⟨vs,?_,h2⟩
  have hm:(fn.results.mapM (ZgH tmps)).run P w=.ok vs.toArray w:=by
   rw [Array.mapM_eq_mapM_toList,Sem.run_map,h1];rfl
  have he:results fn tmps=(do let vs <-fn.results.mapM (ZgH tmps);pure (if h:vs.size=1 then vs[0] else .tuple vs)):=by
   unfold results
   congr 1
  rw [he,Sem.run_bind,hm]
  rfl
 split at h
 ·rename_i v hv
  injection h with h;subst h
  obtain ⟨vs,h1,h2⟩:=run hv
  simp only [VRs] at h2
  obtain ⟨u,us,rfl,h3,rfl⟩:=h2
  exact ⟨u,by rw [h1];simp,h3⟩
 ·rename_i vs' hv hne
  injection h with h;subst h
  obtain ⟨vs,h1,h2⟩:=run hne
  have hl:=ZQ h2
  refine ⟨.tuple vs.toArray,?_,by simp only [VR];exact ⟨_,rfl,by simpa using h2⟩⟩
  rw [h1,dif_neg]
  intro hs
  simp only [List.size_toArray] at hs
  match vs',hl with
  | [v],_=>exact hv v rfl
  | [],hl=>simp at hl;omega
  | _::_::_,hl=>simp at hl;omega
 ·cases h
theorem Zr8:∀ (args:List AVal) (i:Nat) (acc:Tms) (n:Nat),tget (enterA i args acc) n=if i<=n/\n < i+args.length then args.getD (n - i) .top else tget acc n
 | [],i,acc,n=>by simp only [enterA,XT];rw [if_neg (by omega)]
 | x::xs,i,acc,n=>by
  simp only [enterA,XD]
  rw [Zr8 xs (i+1) _ n]
  by_cases h:i+1<=n/\n < i+1+xs.length
  ·rw [if_pos h,if_pos (by omega),show n - i=(n - (i+1))+1 by omega,List.getD_cons_succ]
  ·rw [if_neg h]
   simp only [tget]
   by_cases h1:i=n
   ·subst h1
    rw [if_pos rfl,if_pos (by omega),Nat.sub_self,XK]
   ·rw [if_neg h1,if_neg (by omega)]
theorem Zxy {I:Imm} {β:Bmap} {args:List AVal} {vs:Array Value} (h:VRs I β args vs.toList) (n:Nat):TR I β (enterA 0 args []) (vs++Xbn n undef):=by
 intro j
 rw [Zr8]
 have hl:=ZQ h
 simp only [XR] at hl
 split
 ·rename_i hj
  have hjl:j < args.length:=by omega
  obtain ⟨v,h1,h2⟩:=Zbr h (Xm hjl)
  have e1:args.getD (j - 0) .top=args[j]:=by simp [Xd,hjl]
  have e2:(vs++Xbn n undef).getD j undef=v:=by
   rw [WU,Array.getElem?_append_left (by omega)]
   have : vs[j]?=some v:=by simpa using h1
   rw [this];rfl
  rw [e1,e2];exact h2
 ·simp only [tget,VR]
def Zhq (P:Program) (prim:ZcZ):Prop:=∀ f g,prim f=some g->∀ args σ r σ',g args σ=some (r,σ') ->
 (∃ fn,P.funcs[f]?=some fn/\fn.body.isSome=true/\(fn.name == "runtime.NumGoroutine")=false) /\
 ∀ base w0 I0 I β w (vs:Array Value),KLt base w0->Rel base w0 I0 I β σ w->VRs I β args vs.toList ->
  Calls P f vs w (fun e w'=>∃ u,Ends r e u/\Zbu σ.length base w0 I0 I β r σ' u w')
theorem Zjl (hm:P.follows .mixedOrders=true) {prim:ZcZ} (hP:Zhq P prim) (ann:Nat->Ann) (bf:Nat->Bool):∀ n,Z1 P (ZW (Zfz P ann) prim bf n)
 | 0=>by intro f args σ r σ' h;simp only [ZW] at h;cases h
 | n+1=>by
  have ih:=Zjl hm hP ann bf n
  intro f args σ r σ' h
  simp only [ZW] at h
  split at h
  ·rename_i g hg
   exact hP f g hg args σ r σ' h
  split at h
  ·cases h
  rename_i fn hfn
  unfold Zfz at hfn
  split at hfn
  ·rename_i F hF
   split at hfn
   ·rename_i body hbody
    split at hfn
    ·cases hfn
    ·rename_i hname
     split at hfn
     ·rename_i rs hrs
      injection hfn with hfn;subst hfn
      refine ⟨⟨F,hF,by rw [hbody];rfl,by simpa using hname⟩,?_⟩
      intro base w0 I0 I β w vs hb R hargs
      refine calls_of_wp hF hbody ?_
      have T:=Zxy hargs (F.ntmps - vs.size)
      have hst:StF ZfB σ.length F.ntmps base w0 I0 I β (enterA 0 args []) σ { tmps:=vs++Xbn (F.ntmps - vs.size) undef,defers:=[] } w:=⟨I,β,Imm.le.refl I,KeptE.refl _ β,T,⟨ZmP.2 rfl,by simp;omega⟩,R⟩
      cases hx:Zx (ZW (Zfz P ann) prim bf n) bf σ.length n (Zai P { ann f with nt:=F.ntmps } body) (enterA 0 args []) σ with
      | none=>rw [hx] at h;simp only [ZaJ] at h;cases h
      | some q =>
       obtain ⟨e,tm',σ1⟩:=q
       rw [hx] at h
       have fin:(match resA tm' σ1 rs with | some r=>Zar σ.length σ1 r | none=>none)=some (r,σ')->∀ a' w',StF ZfB σ.length F.ntmps base w0 I0 I β tm' σ1 a' w'->a'.defers=[]/\∃ v,(results F a'.tmps).run P w'=.ok v w'/\∃ u,Ends r (.returned v) u/\Zbu σ.length base w0 I0 I β r σ' u w':=by
        intro hr a' w' ⟨I1,β1,g1,g2,g3,g4,g5⟩
        split at hr
        ·rename_i x hx1
         obtain ⟨v,h1,h2⟩:=ZwS g3 g5 hrs hx1
         have hnp:∀ y,x≠.pan y:=by rintro y rfl;simp only [VR] at h2
         obtain ⟨q1,q2⟩:=ZmV (⟨I1,β1,g1,g2,g5,by rw [Ze5 hnp];exact h2⟩:Zbu σ.length base w0 I0 I β x σ1 v w') hr
         refine ⟨ZmP.1 g4.1,v,h1,v,q2 _ ?_,q1⟩
         cases x <;> first | rfl | exact absurd rfl (hnp _)
        ·cases hr
       refine ZIJ (dr:=ZfB) (an:={ ann f with nt:=F.ntmps }) ih (fun n hn=>by simp [ZfB] at hn) hm hb σ.length n rfl hst hx ?_
       cases e with
       | normal=>simp only [ZaJ] at h;exact fun a' w' hs=>fin h a' w' hs
       | ret=>simp only [ZaJ] at h;exact fun a' w' hs=>fin h a' w' hs
       | exit id=>simp only [ZaJ] at h;cases h
       | panic x =>
        simp only [ZaJ] at h
        intro a' u w' hd hp
        obtain ⟨q1,q2⟩:=ZmV hp h
        exact ⟨ZmP.1 hd,u,q2 _ rfl,q1⟩
     ·cases hfn
   ·cases hfn
  ·cases hfn
end
end
section
open Go.RowKit
def OLe (O O':Zz):Prop:=∀ f a σ r,O f a σ=some r->O' f a σ=some r
section
variable {O O':Zz} {bf:Nat->Bool}
theorem Zxi {view:Bool} {m:Nat} {x y:Option (AVal×Za)} (h:∀ r,x=some r->y=some r) {r:AVal×Za} (hr:Z4 view m x=some r):Z4 view m y=some r:=by
 cases x with
 | none=>cases view <;> simp [Z4,Zcv] at hr
 | some q=>rw [h q rfl];exact hr
theorem ZD9 {σ σf:Za} {ids ts:List Nat} {sq own:Nat} {x y:Option (AVal×Za)} (h:∀ r,x=some r->y=some r) {r:AVal×Za×Cls} (hr:Z9 σ σf ids ts sq own x=some r):Z9 σ σf ids ts sq own y=some r:=by
 cases x with
 | none=>simp only [Z9] at hr;cases hr
 | some q=>rw [h q rfl];exact hr
theorem ZpI (hO:OLe O O') {σ:Za} {sq f own:Nat} {view:Bool} {args:List AVal} {r:AVal×Za×Cls} (h:Zr O bf σ sq f own view args=some r):Zr O' bf σ sq f own view args=some r:=by
 unfold Zr ZaS at h ⊢
 split at h
 ·cases h
 ·rename_i vs ts hv
  split at h
  ·rename_i hc
   simp only [hc,if_true]
   exact ZD9 (fun q hq=>Zxi (fun q hq=>hO _ _ _ _ hq) hq) h
  ·cases h
theorem ZtG (hO:OLe O O') {tm:Tms} {σ:Za} {sq:Nat} {ins:Ins} {r:AVal×Za×Cls} (h:execI O bf tm σ sq ins=some r):execI O' bf tm σ sq ins=some r:=by
 cases ins
 case call f own view args =>
  simp only [execI] at h ⊢
  exact ZpI hO h
 case callv x args =>
  simp only [execI] at h ⊢
  split at h
  ·exact ZpI hO h
  ·cases h
 all_goals exact h
theorem Zjy (hO:OLe O O') {o:AOp} {tm:Tms} {σ:Za} {sq:Nat} {r:AVal×Tms×Za×Cls} (h:Zs O bf o sq tm σ=some r):Zs O' bf o sq tm σ=some r:=by
 unfold Zs at h ⊢
 split at h
 ·cases h
 ·exact h
 ·split at h
  ·rename_i hf
   rw [if_pos hf]
   split at h
   ·rename_i he;rw [ZtG hO he];exact h
   ·cases h
  ·cases h
theorem ZmS (hO:OLe O O'):∀ {ops:List AOp} {s:Nat} {tm:Tms} {σ:Za} {r:Tms×Za×List Cls×Option AVal},ZA O bf ops s tm σ=some r->ZA O' bf ops s tm σ=some r
 | [],_,_,_,_,h=>h
 | o::ops,s,tm,σ,r,h=>by
  simp only [ZA] at h ⊢
  split at h
  ·cases h
  ·rename_i h1
   rw [Zjy hO h1]
   exact h
  ·rename_i v tm1 σ1 c hnp h1
   rw [Zjy hO h1]
   simp only
   split at h
   ·cases h
   rename_i h2
   rw [ZmS hO h2]
   exact h
theorem Zou (hO:OLe O O') {ops:List AOp} {chk:Option (List (Nat×Nat))} {live:List Nat} {tm:Tms} {σ:Za} {r:Zy×Tms×Za} (h:ZbV O bf ops chk live tm σ=some r):ZbV O' bf ops chk live tm σ=some r:=by
 unfold ZbV at h ⊢
 cases hx:ZA O bf ops σ.length tm (σ++Xy (sitesOf ops) .free) with
 | none=>rw [hx] at h;simp only [Zc8] at h;cases h
 | some q=>rw [ZmS hO hx];rw [hx] at h;exact h
theorem ZhA {m0:Nat} {live:List Nat} {f f':Tms->Za->Option (Zy×Tms×Za)} (hf:∀ tm σ r,f tm σ=some r->f' tm σ=some r):∀ {n n':Nat} {tm:Tms} {σ:Za} {r:Zy×Tms×Za},n<=n'->Zcw m0 live f n tm σ=some r->Zcw m0 live f' n' tm σ=some r
 | 0,_,_,_,_,_,h=>by simp only [Zcw] at h;cases h
 | n+1,0,_,_,_,hn,_=>by omega
 | n+1,n'+1,tm,σ,r,hn,h=>by
  simp only [Zcw] at h ⊢
  split at h
  ·rename_i h1
   rw [hf _ _ _ h1]
   exact ZhA hf (by omega) h
  ·rename_i hne
   rw [hf _ _ _ h]
   split
   ·rename_i e;injection e with e;subst e;exact absurd h (hne _ _)
   ·rfl
def RLe (run run':Nat->Tms->Za->Option (Zy×Tms×Za)):Prop:=∀ m tm σ r,run m tm σ=some r->run' m tm σ=some r
section
variable {m:Nat} {live:List Nat} {ms en b1:Nat} {bg:Bool} {ent:List AOp} {run run' fin fin':Nat->Tms->Za->Option (Zy×Tms×Za)}
theorem ZhX (h:RLe run run') {t:Nat} {B:Zg} {kv:AVal×AVal} {tm:Tms} {σ:Za} {r:Tms×Za} (hr:Za1 bf ms en b1 bg ent run t B kv tm σ=some r):Za1 bf ms en b1 bg ent run' t B kv tm σ=some r:=by
 unfold Za1 at hr ⊢
 split at hr
 ·rename_i tm1 σ1 h1
  cases hx:run σ.length tm1 σ1 with
  | none=>rw [hx] at hr;cases hr
  | some q=>rw [hx] at hr;simp only [h _ _ _ _ hx];exact hr
 ·cases hr
theorem ZiK (h:RLe run run') {es:List (AVal×AVal)}:∀ {l:List (AVal×AVal)} {tm:Tms} {σ:Za} {r:Tms×Za},ZaB bf m live ms en b1 bg ent run es l tm σ=some r->ZaB bf m live ms en b1 bg ent run' es l tm σ=some r
 | [],tm,σ,r,hr=>hr
 | kv::l,tm,σ,r,hr=>by
  simp only [ZaB] at hr ⊢
  split at hr
  ·rename_i t B es' tm0 σ0 hh
   split at hr
   ·rename_i he
    simp only [he,if_true]
    split at hr
    ·rename_i tm' σ' h1
     rw [ZhX h h1]
     exact ZiK h hr
    ·cases hr
   ·cases hr
  ·cases hr
theorem Zrn (h:RLe run run') (hf:RLe fin fin') {es l:List (AVal×AVal)} {tm:Tms} {σ:Za} {r:Zy×Tms×Za} (hr:ZaZ bf m live ms en b1 bg ent run fin es l tm σ=some r):ZaZ bf m live ms en b1 bg ent run' fin' es l tm σ=some r:=by
 unfold ZaZ at hr ⊢
 split at hr
 ·rename_i tm' σ' h1
  rw [ZiK h h1]
  exact hf _ _ _ _ hr
 ·cases hr
theorem ZmR {es:List (AVal×AVal)} {tm:Tms} {σ:Za} {r:Zy×Tms×Za}:Zfg bf m live ms en b1 bg ent run fin es tm σ=some r↔∀ es':List (AVal×AVal),es'.Perm es->ZaZ bf m live ms en b1 bg ent run fin es es' tm σ=some r:=by
 unfold Zfg
 constructor
 ·intro h
  split at h
  ·rename_i hx
   injection h with h
   rw [<-h]
   exact hx.choose_spec
  ·cases h
 ·intro h
  have hx:∃ out,∀ es':List (AVal×AVal),es'.Perm es->ZaZ bf m live ms en b1 bg ent run fin es es' tm σ=some out:=⟨r,h⟩
  rw [dif_pos hx]
  have h1:=hx.choose_spec es (Xag _)
  rw [h es (Xag _)] at h1
  injection h1 with h1
  rw [<-h1]
theorem Zrp (h:RLe run run') (hf:RLe fin fin') {tm:Tms} {σ:Za} {r:Zy×Tms×Za} (hr:ZbK bf m live ms en b1 bg ent run fin tm σ=some r):ZbK bf m live ms en b1 bg ent run' fin' tm σ=some r:=by
 unfold ZbK at hr ⊢
 split at hr
 ·cases hr
 ·exact hf _ _ _ _ hr
 ·split at hr
  ·rename_i h1
   rw [ZhX h h1]
   exact hf _ _ _ _ hr
  ·cases hr
 ·rw [ZmR] at hr ⊢
  exact fun es' hp=>Zrn h hf (hr es' hp)
end
theorem ZqP {α:Type} (Q:Nat->α->Prop) (hm:∀ n n' x,n<=n'->Q n x->Q n' x):∀ (L:List α),(∀ x ∈ L,∃ n,Q n x)->∃ n,∀ x ∈ L,Q n x
 | [],_=>⟨0,fun x hx=>by cases hx⟩
 | x::L,h=>by
  obtain ⟨a,ha⟩:=h x (by simp)
  obtain ⟨b,hb⟩:=ZqP Q hm L (fun y hy=>h y (by simp [hy]))
  refine ⟨max a b,fun y hy=>?_⟩
  rcases Xv.1 hy with rfl | hy
  ·exact hm _ _ _ (WN _ _) ha
  ·exact hm _ _ _ (Wu _ _) (hb y hy)
theorem Zne {α:Type} (es:List α) {i:Nat} (hi:i < es.length):(es[i]::es.eraseIdx i).Perm es:=by
 rw [List.eraseIdx_eq_take_drop_succ]
 have h:es.take i++es[i]::es.drop (i+1)=es:=by rw [List.getElem_cons_drop,Xbc]
 have:=(List.perm_middle (a:=es[i]) (l₁:=es.take i) (l₂:=es.drop (i+1))).symm
 rwa [h] at this
theorem ZpY {α:Type}:∀ (k:Nat) (es:List α) (P:Nat->List α->Prop),es.length=k->(∀ n n' l,n<=n'->P n l->P n' l)->(∀ l:List α,l.Perm es->∃ n,P n l)->∃ n,∀ l:List α,l.Perm es->P n l
 | 0,es,P,hk,hm,h=>by
  obtain rfl:es=[]:=XW hk
  obtain ⟨n,hn⟩:=h [] (Xag _)
  exact ⟨n,fun l hl=>by rw [Xbb.eq_nil hl];exact hn⟩
 | k+1,es,P,hk,hm,h=>by
  have key:∀ i ∈ Wm es.length,∃ n,∀ (hi:i < es.length),∀ r:List α,r.Perm (es.eraseIdx i)->P n (es[i]::r):=by
   intro i hi
   have hi:=WR.1 hi
   obtain ⟨n,hn⟩:=ZpY k (es.eraseIdx i) (fun n r=>P n (es[i]::r)) (by rw [List.length_eraseIdx_of_lt hi];omega) (fun n n' l hn hp=>hm n n' _ hn hp) (fun r hr=>h _ ((Xbb.cons _ hr).trans (Zne es hi)))
   exact ⟨n,fun _ r hr=>hn r hr⟩
  obtain ⟨n,hn⟩:=ZqP (fun n i=>∀ (hi:i < es.length),∀ r:List α,r.Perm (es.eraseIdx i)->P n (es[i]::r)) (fun n n' i hle hq hi r hr=>hm n n' _ hle (hq hi r hr)) _ key
  refine ⟨n,fun l hl=>?_⟩
  cases l with
  | nil=>have:=hl.length_eq;simp at this;omega
  | cons x r =>
   have hx:x ∈ es:=hl.subset (by simp)
   obtain ⟨i,hi,rfl⟩:=List.getElem_of_mem hx
   exact hn i (WR.2 hi) hi r (Xbb.cons_inv (hl.trans (Zne es hi).symm))
theorem Zcq (hO:OLe O O'):∀ {m0:Nat} {c:Zc} {n n':Nat} {tm:Tms} {σ:Za} {r:Zy×Tms×Za},n<=n'->Zx O bf m0 n c tm σ=some r->Zx O' bf m0 n' c tm σ=some r:=by
 intro m0 c
 induction c generalizing m0 with
 | skip=>intro n n' tm σ r _ h;exact h
 | exit id=>intro n n' tm σ r _ h;exact h
 | ret=>intro n n' tm σ r _ h;exact h
 | stuck=>intro n n' tm σ r _ h;exact h
 | region ops chk live =>
  intro n n' tm σ r _ h
  simp only [Zx] at h ⊢
  exact Zou hO h
 | seq a b iha ihb =>
  intro n n' tm σ r hn h
  simp only [Zx] at h ⊢
  split at h
  ·rename_i h1;rw [iha hn h1];exact ihb hn h
  ·rename_i hne
   rw [iha hn h]
   split
   ·rename_i e;injection e with e;subst e;exact absurd h (hne _ _)
   ·rfl
 | cond c a b iha ihb =>
  intro n n' tm σ r hn h
  simp only [Zx] at h ⊢
  split at h
  ·exact iha hn h
  ·exact ihb hn h
  ·cases h
 | block id c ih =>
  intro n n' tm σ r hn h
  simp only [Zx] at h ⊢
  split at h
  ·rename_i h1;rw [ih hn h1];exact h
  ·rename_i hne
   rw [ih hn h]
   split
   ·rename_i e;injection e with e;subst e;exact absurd h (hne _ _ _)
   ·rfl
 | loop live c ih =>
  intro n n' tm σ r hn h
  simp only [Zx] at h ⊢
  exact ZhA (fun tm σ r h=>ih hn h) hn h
 | range pre live ms en b1 bg ent body rest ihb ihr =>
  intro n n' tm σ r hn h
  simp only [Zx] at h ⊢
  split at h
  ·exact Zrp (fun m tm σ r h=>ihb hn h) (fun m tm σ r h=>ihr hn h) h
  ·cases h
theorem ZjY {m0:Nat} {fn:Z0} {x y:Option (Zy×Tms×Za)} (h:∀ r,x=some r->y=some r) {r:AVal×Za} (hr:ZaJ m0 fn x=some r):ZaJ m0 fn y=some r:=by
 cases x with
 | none=>simp only [ZaJ] at hr;cases hr
 | some q=>rw [h q rfl];exact hr
theorem ZoY (fs:Nat->Option Z0) (prim:ZcZ):∀ n,OLe (ZW fs prim bf n) (ZW fs prim bf (n+1))
 | 0=>by intro f a σ r h;simp only [ZW] at h;cases h
 | n+1=>by
  intro f a σ r h
  rw [ZW] at h ⊢
  split at h
  ·rename_i g hg;exact h
  ·rename_i hg
   split at h
   ·cases h
   ·rename_i fn hfn
    exact ZjY (fun q hq=>Zcq (ZoY fs prim n) (by omega) hq) h
theorem ZgQ (fs : Nat -> Option Z0) (prim : ZcZ) {n m : Nat} (h : n <= m) : OLe (ZW fs prim bf n) (ZW fs prim bf m) := by
  induction m with
  | zero => obtain rfl : n = 0 := by omega
            exact fun _ _ _ _ h => h
  | succ m ih =>
    by_cases e : n = m + 1
    . subst e; exact fun _ _ _ _ h => h
    . exact fun f a σ r hr => ZoY fs prim m f a σ r (ih (by omega) f a σ r hr)
end
section
variable (fs:Nat->Option Z0) (prim:ZcZ) (bf:Nat->Bool)
open Classical in
noncomputable def EV:Zz:=fun f args σ=>if h:∃ r,∃ n,ZW fs prim bf n f args σ=some r then some h.choose else none
open Classical in
noncomputable def evC (m:Nat) (c:Zc) (tm:Tms) (σ:Za):Option (Zy×Tms×Za):=if h:∃ r,∃ n,Zx (ZW fs prim bf n) bf m n c tm σ=some r then some h.choose else none
variable {fs prim bf} {m0:Nat}
theorem Zbx {f:Nat} {args:List AVal} {σ:Za} {r:AVal×Za}:EV fs prim bf f args σ=some r↔∃ n,ZW fs prim bf n f args σ=some r:=by
 unfold EV
 constructor
 ·intro h
  split at h
  ·rename_i hx
   injection h with h
   rw [<-h]
   exact hx.choose_spec
  ·cases h
 ·rintro ⟨n,hn⟩
  have hx:∃ r,∃ n,ZW fs prim bf n f args σ=some r:=⟨r,n,hn⟩
  rw [dif_pos hx]
  obtain ⟨m,hm⟩:=hx.choose_spec
  have h1:=ZgQ (bf:=bf) fs prim (WN n m) _ _ _ _ hn
  have h2:=ZgQ (bf:=bf) fs prim (Wu n m) _ _ _ _ hm
  rw [h1] at h2
  injection h2 with h2
  rw [<-h2]
theorem Zav {c:Zc} {tm:Tms} {σ:Za} {r:Zy×Tms×Za}:evC fs prim bf m0 c tm σ=some r↔∃ n,Zx (ZW fs prim bf n) bf m0 n c tm σ=some r:=by
 unfold evC
 constructor
 ·intro h
  split at h
  ·rename_i hx
   injection h with h
   rw [<-h]
   exact hx.choose_spec
  ·cases h
 ·rintro ⟨n,hn⟩
  have hx:∃ r,∃ n,Zx (ZW fs prim bf n) bf m0 n c tm σ=some r:=⟨r,n,hn⟩
  rw [dif_pos hx]
  obtain ⟨m,hm⟩:=hx.choose_spec
  have h1:=Zcq (ZgQ (bf:=bf) fs prim (WN n m)) (WN n m) hn
  have h2:=Zcq (ZgQ (bf:=bf) fs prim (Wu n m)) (Wu n m) hm
  rw [h1] at h2
  injection h2 with h2
  rw [<-h2]
theorem ZdZ {α:Type} {x y:Option α} (h:∀ r,x=some r↔y=some r):x=y:=by
 cases x with
 | none =>
  cases y with
  | none=>rfl
  | some q=>exact absurd ((h q).2 rfl) (by simp)
 | some q=>exact ((h q).1 rfl).symm
theorem ZA6 (n:Nat):OLe (ZW fs prim bf n) (EV fs prim bf):=fun _ _ _ _ h=>Zbx.2 ⟨n,h⟩
theorem up {n m:Nat} (h:n<=m):OLe (ZW fs prim bf n) (ZW fs prim bf m):=ZgQ fs prim h
theorem Zsi {f:Nat} {fn:Z0} (hp:prim f=none) (hf:fs f=some fn) (args:List AVal) (σ:Za):EV fs prim bf f args σ=ZaJ σ.length fn (evC fs prim bf σ.length fn.body (enterA 0 args []) σ):=by
 apply ZdZ
 intro r
 rw [Zbx]
 constructor
 ·rintro ⟨n,h⟩
  cases n with
  | zero=>simp only [ZW] at h;cases h
  | succ n =>
   rw [ZW,hp,hf] at h
   exact ZjY (fun q hq=>Zav.2 ⟨n,hq⟩) h
 ·intro h
  cases hx:evC fs prim bf σ.length fn.body (enterA 0 args []) σ with
  | none=>rw [hx] at h;simp only [ZaJ] at h;cases h
  | some q =>
   obtain ⟨n,hn⟩:=Zav.1 hx
   refine ⟨n+1,?_⟩
   rw [ZW,hp,hf]
   rw [hx] at h
   exact ZjY (x:=some q) (fun q' hq'=>by injection hq' with hq';subst hq';exact hn) h
theorem Zo7 {σ:Za} {sq f own:Nat} {view:Bool} {args:List AVal} {r:AVal×Za×Cls} (h:Zr (EV fs prim bf) bf σ sq f own view args=some r):∃ n,Zr (ZW fs prim bf n) bf σ sq f own view args=some r:=by
 unfold Zr ZaS at h ⊢
 split at h
 ·cases h
 ·rename_i vs ts hv
  split at h
  ·rename_i hc
   simp only [hc,if_true]
   cases hx:EV fs prim bf f (Zp (Zd (Zo σ ts) 0 (Zj (Zo σ ts) 1000 (Zu vs) [])) vs) (Zi (Zo σ ts) 0 (Zj (Zo σ ts) 1000 (Zu vs) []) (Zd (Zo σ ts) 0 (Zj (Zo σ ts) 1000 (Zu vs) [])) (Zj (Zo σ ts) 1000 (Zu vs) []) 0) with
   | none =>
    rw [hx] at h
    cases view <;> simp [Z4,Zcv,Z9] at h
   | some q =>
    obtain ⟨n,hn⟩:=Zbx.1 hx
    exact ⟨n,by rw [hn];rw [hx] at h;exact h⟩
  ·cases h
theorem ZFI {tm:Tms} {σ:Za} {sq:Nat} {ins:Ins} {r:AVal×Za×Cls} (h:execI (EV fs prim bf) bf tm σ sq ins=some r):∃ n,execI (ZW fs prim bf n) bf tm σ sq ins=some r:=by
 cases ins
 case call f own view args =>
  simp only [execI] at h ⊢
  exact Zo7 h
 case callv x args =>
  simp only [execI] at h ⊢
  split at h
  ·exact Zo7 h
  ·cases h
 all_goals exact ⟨0,h⟩
theorem ZnR {o:AOp} {tm:Tms} {σ:Za} {sq:Nat} {r:AVal×Tms×Za×Cls} (h:Zs (EV fs prim bf) bf o sq tm σ=some r):∃ n,Zs (ZW fs prim bf n) bf o sq tm σ=some r:=by
 unfold Zs at h ⊢
 split at h
 ·cases h
 ·exact ⟨0,h⟩
 ·split at h
  ·rename_i hf
   simp only [hf,if_true]
   split at h
   ·rename_i he
    obtain ⟨n,hn⟩:=ZFI he
    exact ⟨n,by rw [hn];exact h⟩
   ·cases h
  ·cases h
theorem Zo4:∀ {ops:List AOp} {s:Nat} {tm:Tms} {σ:Za} {r:Tms×Za×List Cls×Option AVal},ZA (EV fs prim bf) bf ops s tm σ=some r->∃ n,ZA (ZW fs prim bf n) bf ops s tm σ=some r
 | [],_,_,_,_,h=>⟨0,h⟩
 | o::ops,s,tm,σ,r,h=>by
  simp only [ZA] at h ⊢
  split at h
  ·cases h
  ·rename_i h1
   obtain ⟨n,hn⟩:=ZnR h1
   exact ⟨n,by rw [hn];exact h⟩
  rename_i v tm1 σ1 c hnp h1
  split at h
  ·cases h
  rename_i h2
  obtain ⟨n,hn⟩:=ZnR h1
  obtain ⟨m,hm⟩:=Zo4 h2
  refine ⟨max n m,?_⟩
  rw [Zjy (up (WN n m)) hn]
  simp only
  rw [ZmS (up (Wu n m)) hm]
  exact h
theorem ZEW {ops:List AOp} {chk:Option (List (Nat×Nat))} {live:List Nat} {tm:Tms} {σ:Za} {r:Zy×Tms×Za} (h:ZbV (EV fs prim bf) bf ops chk live tm σ=some r):∃ n,ZbV (ZW fs prim bf n) bf ops chk live tm σ=some r:=by
 unfold ZbV at h ⊢
 cases hx:ZA (EV fs prim bf) bf ops σ.length tm (σ++Xy (sitesOf ops) .free) with
 | none=>rw [hx] at h;simp only [Zc8] at h;cases h
 | some q =>
  obtain ⟨n,hn⟩:=Zo4 hx
  exact ⟨n,by rw [hn];rw [hx] at h;exact h⟩
theorem Zqg (tm:Tms) (σ:Za):evC fs prim bf m0 .skip tm σ=some (.normal,tm,σ):=Zav.2 ⟨0,rfl⟩
theorem ZxH (id:Nat) (tm:Tms) (σ:Za):evC fs prim bf m0 (.exit id) tm σ=some (.exit id,tm,σ):=Zav.2 ⟨0,rfl⟩
theorem ZBX (tm:Tms) (σ:Za):evC fs prim bf m0 .ret tm σ=some (.ret,tm,σ):=Zav.2 ⟨0,rfl⟩
theorem ZE3 {ops:List AOp} {chk:Option (List (Nat×Nat))} {live:List Nat} {tm:Tms} {σ:Za}:evC fs prim bf m0 (.region ops chk live) tm σ=ZbV (EV fs prim bf) bf ops chk live tm σ:=by
 apply ZdZ
 intro r
 rw [Zav]
 constructor
 ·rintro ⟨n,hn⟩
  simp only [Zx] at hn
  exact Zou (ZA6 n) hn
 ·intro h
  obtain ⟨n,hn⟩:=ZEW h
  exact ⟨n,by simp only [Zx];exact hn⟩
theorem ZiQ {a b:Zc} {tm tm':Tms} {σ σ':Za} (h:evC fs prim bf m0 a tm σ=some (.normal,tm',σ')):evC fs prim bf m0 (.seq a b) tm σ=evC fs prim bf m0 b tm' σ':=by
 obtain ⟨n,hn⟩:=Zav.1 h
 apply ZdZ
 intro r
 rw [Zav,Zav]
 constructor
 ·rintro ⟨m,hm⟩
  have h1:=Zcq (up (WN n m)) (WN n m) hn
  have h2:=Zcq (up (Wu n m)) (Wu n m) hm
  simp only [Zx,h1] at h2
  exact ⟨_,h2⟩
 ·rintro ⟨m,hm⟩
  have h1:=Zcq (up (WN n m)) (WN n m) hn
  have h2:=Zcq (up (Wu n m)) (Wu n m) hm
  exact ⟨max n m,by simp only [Zx,h1];exact h2⟩
theorem ZlP {a b:Zc} {tm tm':Tms} {σ σ':Za} {e:Zy} (he:e≠.normal) (h:evC fs prim bf m0 a tm σ=some (e,tm',σ')):evC fs prim bf m0 (.seq a b) tm σ=some (e,tm',σ'):=by
 obtain ⟨n,hn⟩:=Zav.1 h
 refine Zav.2 ⟨n,?_⟩
 simp only [Zx,hn]
 cases e with
 | normal=>exact absurd rfl he
 | exit id=>rfl
 | ret=>rfl
 | panic x=>rfl
def ZaQ (id:Nat):Zy×Tms×Za->Zy×Tms×Za
 | (.exit i,tm,σ)=>if i=id then (.normal,tm,σ) else (.exit i,tm,σ)
 | r=>r
theorem ZBb {id:Nat} {c:Zc} {tm:Tms} {σ:Za}:evC fs prim bf m0 (.block id c) tm σ=(evC fs prim bf m0 c tm σ).map (ZaQ id):=by
 have step:∀ n,Zx (ZW fs prim bf n) bf m0 n (.block id c) tm σ=(Zx (ZW fs prim bf n) bf m0 n c tm σ).map (ZaQ id):=by
  intro n
  simp only [Zx]
  cases Zx (ZW fs prim bf n) bf m0 n c tm σ with
  | none=>rfl
  | some q =>
   obtain ⟨e,tm1,σ1⟩:=q
   cases e with
   | normal=>rfl
   | ret=>rfl
   | panic x=>rfl
   | exit i=>simp only [XQ,ZaQ];split <;> rfl
 apply ZdZ;intro r
 rw [Zav]
 simp only [step,Xi]
 constructor
 ·rintro ⟨n,q,h1,h2⟩;exact ⟨q,Zav.2 ⟨n,h1⟩,h2⟩
 ·rintro ⟨q,h1,h2⟩;obtain ⟨n,hn⟩:=Zav.1 h1;exact ⟨n,q,hn,h2⟩
theorem ZwI {c:Zc} {tm:Tms} {σ:Za} (h:evC fs prim bf m0 c tm σ=none) (n:Nat):Zx (ZW fs prim bf n) bf m0 n c tm σ=none:=by
 cases hx:Zx (ZW fs prim bf n) bf m0 n c tm σ with
 | none=>rfl
 | some r=>rw [Zav.2 ⟨n,hx⟩] at h;cases h
variable (fs prim bf m0) in
noncomputable def Zbw (b:Zc):Option (Zy×Tms×Za)->Option (Zy×Tms×Za)
 | some (.normal,tm,σ)=>evC fs prim bf m0 b tm σ
 | r=>r
theorem ZCY {a b:Zc} {tm:Tms} {σ:Za}:evC fs prim bf m0 (.seq a b) tm σ=Zbw fs prim bf m0 b (evC fs prim bf m0 a tm σ):=by
 cases h:evC fs prim bf m0 a tm σ with
 | none =>
  simp only [Zbw]
  apply ZdZ;intro r
  rw [Zav]
  constructor
  ·rintro ⟨n,hn⟩
   simp only [Zx,ZwI h n] at hn
   cases hn
  ·intro h;cases h
 | some q =>
  obtain ⟨e,tm',σ'⟩:=q
  cases e with
  | normal=>exact ZiQ h
  | exit id=>exact ZlP (by simp) h
  | ret=>exact ZlP (by simp) h
  | panic x=>exact ZlP (by simp) h
variable (fs prim bf m0) in
noncomputable def Zgu (a b:Zc) (tm:Tms) (σ:Za):AVal->Option (Zy×Tms×Za)
 | .bool true=>evC fs prim bf m0 a tm σ
 | .bool false=>evC fs prim bf m0 b tm σ
 | _=>none
theorem ZDf {c:Opd} {a b:Zc} {tm:Tms} {σ:Za}:evC fs prim bf m0 (.cond c a b) tm σ=Zgu fs prim bf m0 a b tm σ (c.ev tm):=by
 apply ZdZ;intro r
 rw [Zav]
 simp only [Zx]
 constructor
 ·rintro ⟨n,hn⟩
  split at hn
  ·rename_i e;rw [e];simp only [Zgu];exact Zav.2 ⟨n,hn⟩
  ·rename_i e;rw [e];simp only [Zgu];exact Zav.2 ⟨n,hn⟩
  ·cases hn
 ·intro h
  unfold Zgu at h
  split at h
  ·rename_i e;obtain ⟨n,hn⟩:=Zav.1 h;exact ⟨n,by rw [e];exact hn⟩
  ·rename_i e;obtain ⟨n,hn⟩:=Zav.1 h;exact ⟨n,by rw [e];exact hn⟩
  ·cases h
variable (fs prim bf m0) in
noncomputable def evL (live:List Nat) (c:Zc) (tm:Tms) (σ:Za):Option (Zy×Tms×Za) :=
 match evC fs prim bf m0 c tm σ with
 | some (.normal,tm',σ')=>evC fs prim bf m0 (.loop live c) tm' σ'
 | r=>r
theorem Zrx {live:List Nat} {c:Zc} {tm:Tms} {σ:Za}:evC fs prim bf m0 (.loop live c) tm σ=evL fs prim bf m0 live c (gcT m0 (keepL live tm) σ).1 (gcT m0 (keepL live tm) σ).2:=by
 apply ZdZ;intro r
 rw [Zav]
 constructor
 ·rintro ⟨n,hn⟩
  simp only [Zx] at hn
  cases n with
  | zero=>simp only [Zcw] at hn;cases hn
  | succ k =>
   simp only [Zcw] at hn
   unfold evL
   cases hx:Zx (ZW fs prim bf (k+1)) bf m0 (k+1) c (gcT m0 (keepL live tm) σ).1 (gcT m0 (keepL live tm) σ).2 with
   | none=>rw [hx] at hn;cases hn
   | some q =>
    rw [Zav.2 ⟨_,hx⟩]
    rw [hx] at hn
    obtain ⟨e,tm',σ'⟩:=q
    cases e with
    | normal =>
     simp only at hn ⊢
     exact Zav.2 ⟨k+1,by simp only [Zx];exact ZhA (fun _ _ _ h=>h) (by omega) hn⟩
    | exit id=>exact hn
    | ret=>exact hn
    | panic x=>exact hn
 ·intro h
  unfold evL at h
  cases hx:evC fs prim bf m0 c (gcT m0 (keepL live tm) σ).1 (gcT m0 (keepL live tm) σ).2 with
  | none=>rw [hx] at h;cases h
  | some q =>
   rw [hx] at h
   obtain ⟨n,hn⟩:=Zav.1 hx
   obtain ⟨e,tm',σ'⟩:=q
   have out:e≠.normal->some (e,tm',σ')=some r->∃ n,Zx (ZW fs prim bf n) bf m0 n (.loop live c) tm σ=some r:=by
    intro he h
    refine ⟨n+1,?_⟩
    have h1:=Zcq (up (show n<=n+1 by omega)) (show n<=n+1 by omega) hn
    simp only [Zx,Zcw,h1]
    cases e with
    | normal=>exact absurd rfl he
    | exit id=>exact h
    | ret=>exact h
    | panic x=>exact h
   cases e with
   | normal =>
    simp only at h
    obtain ⟨m,hm⟩:=Zav.1 h
    have h1:=Zcq (up (show n<=max n m+1 by omega)) (show n<=max n m+1 by omega) hn
    have h2:=Zcq (up (show m<=max n m+1 by omega)) (XI m) hm
    simp only [Zx] at h2
    refine ⟨max n m+1,?_⟩
    simp only [Zx,Zcw,h1]
    exact ZhA (fun tm σ r h=>Zcq (fun _ _ _ _ h=>h) (by omega) h) (by omega) h2
   | exit id=>exact out (by simp) h
   | ret=>exact out (by simp) h
   | panic x=>exact out (by simp) h
section
variable {live:List Nat} {ms en b1:Nat} {bg:Bool} {ent:List AOp} {body rest:Zc}
theorem Zm1 {t:Nat} {B:Zg} {kv:AVal×AVal} {tm:Tms} {σ:Za} {r:Tms×Za} (h:Za1 bf ms en b1 bg ent (fun m'=>evC fs prim bf m' body) t B kv tm σ=some r):∃ n,Za1 bf ms en b1 bg ent (fun m'=>Zx (ZW fs prim bf n) bf m' n body) t B kv tm σ=some r:=by
 unfold Za1 at h ⊢
 split at h
 ·rename_i tm1 σ1 h1
  dsimp only at h ⊢
  cases hx:evC fs prim bf σ.length body tm1 σ1 with
  | none=>rw [hx] at h;cases h
  | some q =>
   obtain ⟨n,hn⟩:=Zav.1 hx
   exact ⟨n,by rw [hx] at h;simp only [hn];exact h⟩
 ·cases h
theorem Zfx {n n':Nat} (h:n<=n') (c:Zc):RLe (fun m'=>Zx (ZW fs prim bf n) bf m' n c) (fun m'=>Zx (ZW fs prim bf n') bf m' n' c):=fun _ _ _ _ hr=>Zcq (up h) h hr
theorem Zrk {es:List (AVal×AVal)}:∀ {l:List (AVal×AVal)} {tm:Tms} {σ:Za} {r:Tms×Za},ZaB bf m0 live ms en b1 bg ent (fun m'=>evC fs prim bf m' body) es l tm σ=some r->∃ n,ZaB bf m0 live ms en b1 bg ent (fun m'=>Zx (ZW fs prim bf n) bf m' n body) es l tm σ=some r
 | [],tm,σ,r,hr=>⟨0,hr⟩
 | kv::l,tm,σ,r,hr=>by
  simp only [ZaB] at hr ⊢
  split at hr
  ·rename_i t B es' tm0 σ0 hh
   split at hr
   ·rename_i he
    simp only [he,if_true]
    split at hr
    ·rename_i tm' σ' h1
     obtain ⟨n,hn⟩:=Zm1 h1
     obtain ⟨n',hn'⟩:=Zrk hr
     refine ⟨max n n',?_⟩
     rw [ZhX (Zfx (WN n n') body) hn]
     exact ZiK (Zfx (Wu n n') body) hn'
    ·cases hr
   ·cases hr
  ·cases hr
theorem Zt6 {es l:List (AVal×AVal)} {tm:Tms} {σ:Za} {r:Zy×Tms×Za} (h:ZaZ bf m0 live ms en b1 bg ent (fun m'=>evC fs prim bf m' body) (fun m'=>evC fs prim bf m' rest) es l tm σ=some r):∃ n,ZaZ bf m0 live ms en b1 bg ent (fun m'=>Zx (ZW fs prim bf n) bf m' n body) (fun m'=>Zx (ZW fs prim bf n) bf m' n rest) es l tm σ=some r:=by
 unfold ZaZ at h ⊢
 split at h
 ·rename_i tm' σ' h1
  obtain ⟨n,hn⟩:=Zrk h1
  unfold ZdC at h ⊢
  dsimp only at h ⊢
  obtain ⟨n',hn'⟩:=Zav.1 h
  refine ⟨max n n',?_⟩
  rw [ZiK (Zfx (WN n n') body) hn]
  exact Zcq (up (Wu n n')) (Wu n n') hn'
 ·cases h
theorem Zu6 {tm:Tms} {σ:Za} {r:Zy×Tms×Za} (h:ZbK bf m0 live ms en b1 bg ent (fun m'=>evC fs prim bf m' body) (fun m'=>evC fs prim bf m' rest) tm σ=some r):∃ n,ZbK bf m0 live ms en b1 bg ent (fun m'=>Zx (ZW fs prim bf n) bf m' n body) (fun m'=>Zx (ZW fs prim bf n) bf m' n rest) tm σ=some r:=by
 unfold ZbK at h ⊢
 split at h
 ·cases h
 ·exact Zav.1 h
 ·split at h
  ·rename_i tm' σ' h1
   obtain ⟨n,hn⟩:=Zm1 h1
   unfold ZdC at h ⊢
   dsimp only at h ⊢
   obtain ⟨n',hn'⟩:=Zav.1 h
   refine ⟨max n n',?_⟩
   rw [ZhX (Zfx (WN n n') body) hn]
   exact Zcq (up (Wu n n')) (Wu n n') hn'
  ·cases h
 ·rename_i es _ _ _ _ _
  simp only [ZmR] at h ⊢
  exact ZpY es.length es (fun n es'=>ZaZ bf m0 live ms en b1 bg ent (fun m'=>Zx (ZW fs prim bf n) bf m' n body) (fun m'=>Zx (ZW fs prim bf n) bf m' n rest) es es' tm σ=some r) rfl (fun n n' l hn hp=>Zrn (Zfx hn body) (Zfx hn rest) hp) (fun l hl=>Zt6 (h l hl))
variable (fs prim bf m0) in
noncomputable def Zgb (live:List Nat) (ms en b1:Nat) (bg:Bool) (ent:List AOp) (body rest:Zc):Option (Tms×Za)->Option (Zy×Tms×Za)
 | some (tm,σ)=>ZbK bf m0 live ms en b1 bg ent (fun m'=>evC fs prim bf m' body) (fun m'=>evC fs prim bf m' rest) tm σ
 | none=>none
theorem Ziy {pre:List AOp} {tm:Tms} {σ:Za}:evC fs prim bf m0 (.range pre live ms en b1 bg ent body rest) tm σ=Zgb fs prim bf m0 live ms en b1 bg ent body rest (Zbo bf pre tm σ):=by
 apply ZdZ
 intro r
 rw [Zav]
 constructor
 ·rintro ⟨n,hn⟩
  simp only [Zx] at hn
  split at hn
  ·rename_i h1
   rw [h1]
   exact Zrp (fun _ _ _ _ h=>Zav.2 ⟨n,h⟩) (fun _ _ _ _ h=>Zav.2 ⟨n,h⟩) hn
  ·cases hn
 ·intro h
  unfold Zgb at h
  split at h
  ·rename_i tm1 σ1 h1
   obtain ⟨n,hn⟩:=Zu6 h
   exact ⟨n,by simp only [Zx,h1];exact hn⟩
  ·cases h
end
theorem Zsp {P:Program} (hm:P.follows .mixedOrders=true) {prim:ZcZ} (hP:Zhq P prim) (ann:Nat->Ann) (bf:Nat->Bool):Z1 P (EV (Zfz P ann) prim bf):=by
 intro f args σ r σ' h
 obtain ⟨n,hn⟩:=Zbx.1 h
 exact Zjl hm hP ann bf n f args σ r σ' hn
end
end
section
open Go.RowKit
def Zqh:Tms×Za×List Cls×Option AVal->Tms×Za×Option AVal:=fun q=>(q.1,q.2.1,q.2.2.2)
def Zab:AVal->Bool
 | .pan _=>true
 | _=>false
section
variable (O:Zz) (bf:Nat->Bool)
def exI (i:Ins) (s:Nat) (tm:Tms) (σ:Za):Option (AVal×Za×Cls) :=
 if nsite i == 0 || freeAt σ s then execI O bf tm σ s i else none
def ZaA (ops:List AOp) (s:Nat) (tm:Tms) (σ:Za):Option (Tms×Za×Option AVal):=(ZA O bf ops s tm σ).map Zqh
def kN (d:Option Nat) (os:List AOp) (s:Nat) (tm:Tms):Option (AVal×Za×Cls)->Option (Tms×Za×Option AVal)
 | none=>none
 | some (v,σ,_)=>if Zab v then some (tput tm d v,σ,some (Zad v)) else ZaA O bf os s (tput tm d v) σ
def Zhy (live:List Nat):Option (Tms×Za×Option AVal)->Option (Zy×Tms×Za)
 | none=>none
 | some (_,σ,some x)=>some (.panic x,[],σ)
 | some (tm,σ,none)=>some (.normal,keepL live tm,σ)
variable {O bf}
theorem Zp0 (s:Nat) (tm:Tms) (σ:Za):ZaA O bf [] s tm σ=some (tm,σ,none):=rfl
theorem ZgB {o:AOp} {os:List AOp} {s:Nat} {tm:Tms} {σ:Za} (h:Zs O bf o s tm σ=none):ZA O bf (o::os) s tm σ=none:=by simp only [ZA,h]
theorem ZhT {o:AOp} {os:List AOp} {s:Nat} {tm tm1:Tms} {σ σ1:Za} {x:AVal} {c:Cls} (h:Zs O bf o s tm σ=some (.pan x,tm1,σ1,c)):ZA O bf (o::os) s tm σ=some (tm1,σ1,[c],some x):=by simp only [ZA,h]
theorem Zpf {o:AOp} {os:List AOp} {s:Nat} {tm tm1:Tms} {σ σ1:Za} {v:AVal} {c:Cls} (h:Zs O bf o s tm σ=some (v,tm1,σ1,c)) (hn:Zab v=false):ZA O bf (o::os) s tm σ=(ZA O bf os (s+nsite o.ins) tm1 σ1).map fun q=>(q.1,q.2.1,c::q.2.2.1,q.2.2.2):=by
 simp only [ZA,h]
 cases v <;> first
  | (simp [Zab] at hn;done)
  | (simp only;cases ZA O bf os (s+nsite o.ins) tm1 σ1 <;> rfl)
theorem Zin {o:AOp} {os:List AOp} {s:Nat} {tm:Tms} {σ:Za} (h:Zs O bf o s tm σ=none):ZaA O bf (o::os) s tm σ=none:=by simp only [ZaA,ZgB h,Option.map_none]
theorem Zj9 {o:AOp} {os:List AOp} {s:Nat} {tm tm1:Tms} {σ σ1:Za} {x:AVal} {c:Cls} (h:Zs O bf o s tm σ=some (.pan x,tm1,σ1,c)):ZaA O bf (o::os) s tm σ=some (tm1,σ1,some x):=by simp only [ZaA,ZhT h,XQ,Zqh]
theorem Zib {o:AOp} {os:List AOp} {s:Nat} {tm tm1:Tms} {σ σ1:Za} {v:AVal} {c:Cls} (h:Zs O bf o s tm σ=some (v,tm1,σ1,c)) (hn:Zab v=false):ZaA O bf (o::os) s tm σ=ZaA O bf os (s+nsite o.ins) tm1 σ1:=by
 simp only [ZaA,Zpf h hn,Option.map_map]
 rfl
theorem Zhw {v:AVal} (h:Zab v=true):∃ x,v=.pan x:=by
 cases v <;> first | exact ⟨_,rfl⟩ | (simp [Zab] at h;done)
theorem Zil {d:Option Nat} {i:Ins} {af:List Nat} {s:Nat} {tm:Tms} {σ:Za}:Zs O bf ⟨d,i,none,af⟩ s tm σ=(exI O bf i s tm σ).map fun q=>(q.1,tput tm d q.1,q.2.1,q.2.2):=by
 unfold Zs exI
 simp only [Za3]
 split
 ·cases execI O bf tm σ s i with
  | none=>rfl
  | some q=>rfl
 ·rfl
theorem ZjA (d:Option Nat) (i:Ins) (af:List Nat) (os:List AOp) (s:Nat) (tm:Tms) (σ:Za):ZaA O bf (⟨d,i,none,af⟩::os) s tm σ=kN O bf d os (s+nsite i) tm (exI O bf i s tm σ):=by
 cases h:exI O bf i s tm σ with
 | none=>exact Zin (by rw [Zil,h];rfl)
 | some q =>
  obtain ⟨v,σ1,c⟩:=q
  have hs:Zs O bf ⟨d,i,none,af⟩ s tm σ=some (v,tput tm d v,σ1,c):=by rw [Zil,h];rfl
  cases hp:Zab v with
  | true =>
   obtain ⟨x,rfl⟩:=Zhw hp
   exact Zj9 hs
  | false =>
   rw [Zib hs hp]
   simp only [kN,hp,Xf,if_false]
theorem ZIM (ops:List AOp) (live:List Nat) (tm:Tms) (σ:Za):ZbV O bf ops none live tm σ=Zhy live (ZaA O bf ops σ.length tm (σ++Xy (sitesOf ops) .free)):=by
 unfold ZbV ZaA
 cases ZA O bf ops σ.length tm (σ++Xy (sitesOf ops) .free) with
 | none=>rfl
 | some q =>
  obtain ⟨tm',σ',cs,p⟩:=q
  cases p <;> rfl
theorem Zk0 (d:Option Nat) (os:List AOp) (s:Nat) (tm:Tms) (v:AVal) (σ:Za) (c:Cls) (h:Zab v=false):kN O bf d os s tm (some (v,σ,c))=ZaA O bf os s (tput tm d v) σ:=by
 simp only [kN,h,Xf,if_false]
theorem ZCl (d:Option Nat) (os:List AOp) (s:Nat) (tm:Tms) (x:AVal) (σ:Za) (c:Cls):kN O bf d os s tm (some (.pan x,σ,c))=some (tput tm d (.pan x),σ,some x):=rfl
theorem ZCi (d:Option Nat) (os:List AOp) (s:Nat) (tm:Tms):kN O bf d os s tm none=none:=rfl
structure GOp where
 guard:Option (Nat×Bool)
 ops:List AOp
def ZaC:List AOp->Tms->Tms
 | [],tm=>tm
 | o::os,tm=>ZaC os (tput tm o.dst (.tup []))
def unG (o:AOp):AOp:={ o with guard:=none }
variable (O bf) in
def Zdl (j:Nat) (w:Bool) (g:List AOp) (s:Nat) (tm:Tms) (σ:Za):Option (Tms×Za×Option AVal):=match Za3 (some (j,w)) tm with
 | none=>none
 | some false=>some (ZaC g tm,σ,none)
 | some true=>ZaA O bf (g.map unG) s tm σ
variable (O bf) in
def gK (os:List AOp) (s:Nat):Option (Tms×Za×Option AVal)->Option (Tms×Za×Option AVal)
 | none=>none
 | some (tm,σ,some x)=>some (tm,σ,some x)
 | some (tm,σ,none)=>ZaA O bf os s tm σ
def ZG (j:Nat) (w:Bool):List AOp->List AOp×List AOp
 | []=>([],[])
 | o::os=>match o.guard with
  | some (j',w')=>if j'=j/\w'=w/\o.dst≠some j then ((o::(ZG j w os).1),(ZG j w os).2) else ([],o::os)
  | none=>([],o::os)
theorem Zmt (j:Nat) (w:Bool):∀ os,(ZG j w os).1++(ZG j w os).2=os
 | []=>rfl
 | o::os=>by
  simp only [ZG]
  split
  ·split
   ·simp [Zmt j w os]
   ·rfl
  ·rfl
theorem Zkw (j:Nat) (w:Bool):∀ os,∀ o ∈ (ZG j w os).1,o.guard=some (j,w)/\o.dst≠some j
 | []=>by simp [ZG]
 | o::os=>by
  intro o' ho
  simp only [ZG] at ho
  split at ho
  ·rename_i j' w' hg
   split at ho
   ·rename_i hc
    rcases Xv.1 ho with rfl | ho
    ·exact ⟨by rw [hg,hc.1,hc.2.1],hc.2.2⟩
    ·exact Zkw j w os o' ho
   ·simp at ho
  ·simp at ho
theorem ZDY {d:Option Nat} {v:AVal} {n:Nat} {tm:Tms} (h:d≠some n):tget (tput tm d v) n=tget tm n:=by
 cases d with
 | none=>rfl
 | some d =>
  have : d≠n:=by rintro rfl;exact h rfl
  simp only [tput,Zhl,this,if_false]
theorem Zey {d:Option Nat} {v:AVal} {j:Nat} {w:Bool} {tm:Tms} (h:d≠some j):Za3 (some (j,w)) (tput tm d v)=Za3 (some (j,w)) tm:=by
 simp only [Za3,ZDY h]
theorem ZpE:∀ (a b:List AOp) (s:Nat) (tm:Tms) (σ:Za),ZaA O bf (a++b) s tm σ=gK O bf b (s+sitesOf a) (ZaA O bf a s tm σ)
 | [],b,s,tm,σ=>by simp [Zp0,gK,sitesOf]
 | o::a,b,s,tm,σ=>by
  have ih:=ZpE a b
  simp only [XC]
  have hs:s+nsite o.ins+sitesOf a=s+sitesOf (o::a):=by simp [sitesOf,WC]
  cases hst:Zs O bf o s tm σ with
  | none=>rw [Zin hst,Zin hst];rfl
  | some q =>
   obtain ⟨v,tm1,σ1,c⟩:=q
   cases hp:Zab v with
   | true =>
    obtain ⟨x,rfl⟩:=Zhw hp
    rw [Zj9 hst,Zj9 hst];rfl
   | false=>rw [Zib hst hp,Zib hst hp,ih,hs]
theorem Zr5 (j:Nat) (w:Bool):∀ (g:List AOp),(∀ o ∈ g,o.guard=some (j,w)/\o.dst≠some j)->∀ (s:Nat) (tm:Tms) (σ:Za),g≠[]->ZaA O bf g s tm σ=Zdl O bf j w g s tm σ
 | [],_,_,_,_,h=>absurd rfl h
 | o::g,hall,s,tm,σ,_=>by
  obtain ⟨hg,hd⟩:=hall o (by simp)
  have ih:∀ (tm:Tms) (σ:Za) (s:Nat),Za3 (some (j,w)) tm≠none->ZaA O bf g s tm σ=Zdl O bf j w g s tm σ:=by
   intro tm σ s hw
   by_cases he:g=[]
   ·subst he
    unfold Zdl
    cases hx:Za3 (some (j,w)) tm with
    | none=>exact absurd hx hw
    | some b=>cases b <;> rfl
   ·exact Zr5 j w g (fun o ho=>hall o (by simp [ho])) s tm σ he
  cases hx:Za3 (some (j,w)) tm with
  | none =>
   rw [Zin (by simp only [Zs,hg,hx])]
   simp only [Zdl,hx]
  | some b =>
   cases b with
   | false =>
    have h1:ZaA O bf (o::g) s tm σ=ZaA O bf g (s+nsite o.ins) (tput tm o.dst (.tup [])) σ :=
     Zib (v:=.tup []) (c:={}) (by simp only [Zs,hg,hx]) rfl
    rw [h1,ih _ _ _ (by rw [Zey hd,hx];simp)]
    unfold Zdl
    rw [Zey hd,hx]
    rfl
   | true =>
    have key:∀ r:Option (AVal×Za×Cls),(∀ v σ' c,r=some (v,σ',c)->Zab v=false->ZaA O bf g (s+nsite o.ins) (tput tm o.dst v) σ'=ZaA O bf (g.map unG) (s+nsite o.ins) (tput tm o.dst v) σ')->kN O bf o.dst g (s+nsite o.ins) tm r=kN O bf o.dst (g.map unG) (s+nsite o.ins) tm r:=by
     intro r hr
     cases r with
     | none=>rfl
     | some q =>
      obtain ⟨v,σ',c⟩:=q
      cases hp:Zab v with
      | true=>simp only [kN,hp,if_true]
      | false=>rw [Zk0 _ _ _ _ _ _ _ hp,Zk0 _ _ _ _ _ _ _ hp];exact hr v σ' c rfl hp
    have h1:ZaA O bf (o::g) s tm σ=kN O bf o.dst g (s+nsite o.ins) tm (exI O bf o.ins s tm σ):=by
     have h0:ZaA O bf (o::g) s tm σ=ZaA O bf (⟨o.dst,o.ins,none,o.after⟩::g) s tm σ:=by
      have hst:Zs O bf o s tm σ=Zs O bf ⟨o.dst,o.ins,none,o.after⟩ s tm σ:=by
       unfold Zs
       simp only [hg,hx]
       rfl
      unfold ZaA
      simp only [ZA,hst]
     rw [h0,ZjA]
    rw [h1]
    unfold Zdl
    rw [hx]
    simp only [XA]
    rw [show unG o=⟨o.dst,o.ins,none,o.after⟩ from rfl,ZjA]
    refine key _ fun v σ' c _ _=>?_
    rw [ih _ _ _ (by rw [Zey hd,hx];simp)]
    unfold Zdl
    rw [Zey hd,hx]
theorem ZDe (d:Option Nat) (i:Ins) (j:Nat) (w:Bool) (af:List Nat) (os:List AOp) (s:Nat) (tm:Tms) (σ:Za) (hd:decide (d=some j)=false) :
  ZaA O bf (⟨d,i,some (j,w),af⟩::os) s tm σ=gK O bf (ZG j w os).2 (s+sitesOf (⟨d,i,some (j,w),af⟩::(ZG j w os).1)) (Zdl O bf j w (⟨d,i,some (j,w),af⟩::(ZG j w os).1) s tm σ):=by
 have h:=Zmt j w os
 have hall:∀ o ∈ (⟨d,i,some (j,w),af⟩::(ZG j w os).1:List AOp),o.guard=some (j,w)/\o.dst≠some j:=by
  intro o ho
  rcases Xv.1 ho with rfl | ho
  ·exact ⟨rfl,by simpa using hd⟩
  ·exact Zkw j w os o ho
 rw [<-Zr5 j w _ hall s tm σ (by simp),<-ZpE,XC,h]
variable (O bf) in
def gW (w:Bool) (g:List AOp) (s:Nat) (tm:Tms) (σ:Za):AVal->Option (Tms×Za×Option AVal)
 | .bool b=>if b=w then ZaA O bf (g.map unG) s tm σ else some (ZaC g tm,σ,none)
 | .tup []=>some (ZaC g tm,σ,none)
 | _=>none
theorem ZuW (j:Nat) (w:Bool) (g:List AOp) (s:Nat) (tm:Tms) (σ:Za):Zdl O bf j w g s tm σ=gW O bf w g s tm σ (tget tm j):=by
 unfold Zdl Za3
 simp only
 generalize tget tm j=v
 cases v
 case bool b=>cases b <;> cases w <;> rfl
 case tup vs=>cases vs <;> rfl
 all_goals rfl
theorem ZBr (w:Bool) (g:List AOp) (s:Nat) (tm:Tms) (σ:Za) (b:Bool):gW O bf w g s tm σ (.bool b)=if b=w then ZaA O bf (g.map unG) s tm σ else some (ZaC g tm,σ,none):=rfl
theorem ZEx (w:Bool) (g:List AOp) (s:Nat) (tm:Tms) (σ:Za):gW O bf w g s tm σ (.tup [])=some (ZaC g tm,σ,none):=rfl
theorem Zy0 (os:List AOp) (s:Nat) (tm:Tms) (σ:Za):gK O bf os s (some (tm,σ,none))=ZaA O bf os s tm σ:=rfl
end
section
variable (c:Prop) [Decidable c]
theorem ZDg {α:Type} (a b:α) (x y:List α):(if c then a::x else b::y)=(if c then a else b)::(if c then x else y):=by split <;> rfl
theorem Zuw (k:IntKind) (a b:Int):(if c then AVal.int k a else AVal.int k b)=AVal.int k (if c then a else b):=by split <;> rfl
theorem ZGq (a b:Bool):(if c then AVal.bool a else AVal.bool b)=AVal.bool (if c then a else b):=by split <;> rfl
theorem ZBF (a b:List UInt8):(if c then AVal.str a else AVal.str b)=AVal.str (if c then a else b):=by split <;> rfl
theorem Zv0 (p q:Bool) (a b:List AVal):(if c then AVal.lst p a else AVal.lst q b)=AVal.lst (if c then p else q) (if c then a else b):=by split <;> rfl
theorem ZxQ (a b:List AVal):(if c then AVal.agg a else AVal.agg b)=AVal.agg (if c then a else b):=by split <;> rfl
theorem ZvC (a b:List AVal):(if c then Zg.var a else Zg.var b)=Zg.var (if c then a else b):=by split <;> rfl
theorem ZF9 (g k:Nat) (a b:List AVal):(if c then Zg.row g k a else Zg.row g k b)=Zg.row g k (if c then a else b):=by split <;> rfl
theorem ZBK (t:Nat) (a b:Nat):(if c then AVal.ref t a else AVal.ref t b)=AVal.ref t (if c then a else b):=by split <;> rfl
theorem ZCJ (σ:Za) (a b:AVal) (p:Bool):Zep σ a b (.bool p)=some (if p=true then a else b,σ,{}):=by cases p <;> rfl
theorem Zv3 (a b:AVal):Zab (if c then a else b)=if c then Zab a else Zab b:=by split <;> rfl
end
section
variable {fs:Nat->Option Z0} {prim:ZcZ} {bf:Nat->Bool} {m0:Nat}
theorem ZHV (p:Bool) (a b:Zc) (tm:Tms) (σ:Za):Zgu fs prim bf m0 a b tm σ (.bool p)=if p=true then evC fs prim bf m0 a tm σ else evC fs prim bf m0 b tm σ:=by
 cases p <;> rfl
theorem Zup (b:Zc) (tm:Tms) (σ:Za):Zbw fs prim bf m0 b (some (.normal,tm,σ))=evC fs prim bf m0 b tm σ:=rfl
theorem ZBM (b:Zc) (i:Nat) (tm:Tms) (σ:Za):Zbw fs prim bf m0 b (some (.exit i,tm,σ))=some (.exit i,tm,σ):=rfl
theorem ZDc (b:Zc) (tm:Tms) (σ:Za):Zbw fs prim bf m0 b (some (.ret,tm,σ))=some (.ret,tm,σ):=rfl
theorem Zxr (b:Zc) (x:AVal) (tm:Tms) (σ:Za):Zbw fs prim bf m0 b (some (.panic x,tm,σ))=some (.panic x,tm,σ):=rfl
theorem ZB4 (c:Prop) [Decidable c] (b:Zc) (x y:Option (Zy×Tms×Za)):Zbw fs prim bf m0 b (if c then x else y)=if c then Zbw fs prim bf m0 b x else Zbw fs prim bf m0 b y:=by split <;> rfl
theorem ZAK (id:Nat) (tm:Tms) (σ:Za):WY (ZaQ id) (some (.normal,tm,σ))=some (.normal,tm,σ):=rfl
theorem ZBe (id i:Nat) (tm:Tms) (σ:Za):WY (ZaQ id) (some (.exit i,tm,σ))=if i=id then some (.normal,tm,σ) else some (.exit i,tm,σ):=by
 simp only [XQ,ZaQ];split <;> rfl
theorem ZyJ (id:Nat) (tm:Tms) (σ:Za):WY (ZaQ id) (some (.ret,tm,σ))=some (.ret,tm,σ):=rfl
theorem ZyI (id:Nat) (x:AVal) (tm:Tms) (σ:Za):WY (ZaQ id) (some (.panic x,tm,σ))=some (.panic x,tm,σ):=rfl
theorem ZFx (id:Nat) (c:Prop) [Decidable c] (x y:Option (Zy×Tms×Za)):WY (ZaQ id) (if c then x else y)=if c then WY (ZaQ id) x else WY (ZaQ id) y:=by split <;> rfl
theorem Zzn (m:Nat) (fn:Z0) (c:Prop) [Decidable c] (x y:Option (Zy×Tms×Za)):ZaJ m fn (if c then x else y)=if c then ZaJ m fn x else ZaJ m fn y:=by split <;> rfl
end
section
variable {fs:Nat->Option Z0} {prim:ZcZ} {bf:Nat->Bool} {m0:Nat}
theorem Zyn {live:List Nat} {c:Zc} {tm tm':Tms} {σ σ':Za} (h:evC fs prim bf m0 c tm σ=some (.normal,tm',σ')):evL fs prim bf m0 live c tm σ=evL fs prim bf m0 live c (gcT m0 (keepL live tm') σ').1 (gcT m0 (keepL live tm') σ').2:=by
 unfold evL
 rw [h]
 simp only
 rw [Zrx]
 rfl
theorem Zyq {live:List Nat} {c:Zc} {tm tm':Tms} {σ σ':Za} {i:Nat} (h:evC fs prim bf m0 c tm σ=some (.exit i,tm',σ')):evL fs prim bf m0 live c tm σ=some (.exit i,tm',σ'):=by
 unfold evL;rw [h]
theorem Zz5 {live:List Nat} {c:Zc} {tm tm':Tms} {σ σ':Za} (h:evC fs prim bf m0 c tm σ=some (.ret,tm',σ')):evL fs prim bf m0 live c tm σ=some (.ret,tm',σ'):=by
 unfold evL;rw [h]
variable (fs prim bf m0) in
noncomputable def evM (live:List Nat) (c:Zc):Option (Zy×Tms×Za)->Option (Zy×Tms×Za)
 | some (.normal,tm,σ)=>evL fs prim bf m0 live c (gcT m0 (keepL live tm) σ).1 (gcT m0 (keepL live tm) σ).2
 | r=>r
theorem Zaq (live:List Nat) (c:Zc) (tm:Tms) (σ:Za):evL fs prim bf m0 live c tm σ=evM fs prim bf m0 live c (evC fs prim bf m0 c tm σ):=by
 cases h:evC fs prim bf m0 c tm σ with
 | none=>unfold evL;rw [h];rfl
 | some q =>
  obtain ⟨e,tm',σ'⟩:=q
  cases e with
  | normal=>exact Zyn h
  | exit i=>exact Zyq h
  | ret=>exact Zz5 h
  | panic x=>unfold evL;rw [h];rfl
theorem ZBQ (live:List Nat) (c:Zc) (tm:Tms) (σ:Za):evM fs prim bf m0 live c (some (.normal,tm,σ))=evL fs prim bf m0 live c (gcT m0 (keepL live tm) σ).1 (gcT m0 (keepL live tm) σ).2:=rfl
theorem ZBs (live:List Nat) (c:Zc) (i:Nat) (tm:Tms) (σ:Za):evM fs prim bf m0 live c (some (.exit i,tm,σ))=some (.exit i,tm,σ):=rfl
theorem Zut (live:List Nat) (c:Zc) (tm:Tms) (σ:Za):evM fs prim bf m0 live c (some (.ret,tm,σ))=some (.ret,tm,σ):=rfl
theorem ZD4 (live:List Nat) (c:Zc) (x:AVal) (tm:Tms) (σ:Za):evM fs prim bf m0 live c (some (.panic x,tm,σ))=some (.panic x,tm,σ):=rfl
theorem Zx1 (live:List Nat) (b:Zc) (c:Prop) [Decidable c] (x y:Option (Zy×Tms×Za)):evM fs prim bf m0 live b (if c then x else y)=if c then evM fs prim bf m0 live b x else evM fs prim bf m0 live b y:=by split <;> rfl
end
def Zaj:AVal->Bool
 | .int _ _=>true
 | .bool _=>true
 | .str _=>true
 | .nilp=>true
 | .nilm=>true
 | .nili=>true
 | .lst _ _=>true
 | .fn _ []=>true
 | _=>false
def Z7:AVal->Bool
 | .agg cs=>cs.all Zaj
 | x=>Zaj x
def Zat:AVal->AVal
 | .lst _ xs=>.lst false xs
 | x=>x
def ZH:AVal->AVal
 | .agg cs=>.agg (cs.map Zat)
 | x=>Zat x
theorem Zp9 {σ:Za} {x:AVal} (h:Zaj x=true):Zch σ x=some (Zat x,[]):=by
 cases x <;> first | (simp [Zaj] at h;done) | rfl
theorem Zrr {σ:Za}:∀ {xs:List AVal},xs.all Zaj=true->Zb3 σ xs=some (xs.map Zat,[])
 | [],_=>rfl
 | x::xs,h=>by
  simp only [X3,Xh] at h
  simp only [Zb3,Zp9 h.1,Zrr h.2,XA,XE]
theorem Zf9 {x:AVal} (h:∀ cs,x≠.agg cs):Z7 x=Zaj x/\ZH x=Zat x:=by
 cases x <;> first | exact ⟨rfl,rfl⟩ | exact absurd rfl (h _)
theorem ZxN {σ:Za} {x:AVal} (h:∀ cs,x≠.agg cs):showA σ x=Zch σ x:=by
 cases x <;> first | rfl | exact absurd rfl (h _)
theorem Zmf (x:AVal):(∃ cs,x=.agg cs)\/∀ cs,x≠.agg cs:=by
 cases x <;> first | exact Xk ⟨_,rfl⟩ | (right;intro cs;simp)
theorem ZAj {σ:Za} {x:AVal} (h:Z7 x=true):showA σ x=some (ZH x,[]):=by
 rcases Zmf x with ⟨cs,rfl⟩ | hn
 ·simp only [Z7] at h
  simp only [showA,Zrr h,ZH]
 ·rw [(Zf9 hn).1] at h
  rw [ZxN hn,(Zf9 hn).2]
  exact Zp9 h
theorem Zfj {σ:Za}:∀ {xs:List AVal},xs.all Z7=true->showAs σ xs=some (xs.map ZH,[])
 | [],_=>rfl
 | x::xs,h=>by
  simp only [X3,Xh] at h
  simp only [showAs,ZAj h.1,Zfj h.2,XA,XE]
theorem Zrb {x:AVal} (h:Zaj x=true):ZU (Zat x)=[]:=by
 cases x
 case fn f cs=>cases cs <;> simp [Zaj] at h;rfl
 all_goals first | (simp [Zaj] at h;done) | rfl
theorem ZrH:∀ {xs:List AVal},xs.all Zaj=true->Zu (xs.map Zat)=[]
 | [],_=>rfl
 | x::xs,h=>by
  simp only [X3,Xh] at h
  simp only [XA,Zu,Zrb h.1,ZrH h.2,XE]
theorem ZGZ {x:AVal} (h:Z7 x=true):ZU (ZH x)=[]:=by
 rcases Zmf x with ⟨cs,rfl⟩ | hn
 ·simp only [Z7] at h
  simp only [ZH,ZU];exact ZrH h
 ·rw [(Zf9 hn).1] at h
  rw [(Zf9 hn).2];exact Zrb h
theorem ZeI:∀ {xs:List AVal},xs.all Z7=true->Zu (xs.map ZH)=[]
 | [],_=>rfl
 | x::xs,h=>by
  simp only [X3,Xh] at h
  simp only [XA,Zu,ZGZ h.1,ZeI h.2,XE]
theorem Zpa {ρ:Rho} {x:AVal} (h:Zaj x=true):Ze ρ (Zat x)=Zat x:=by
 cases x
 case fn f cs=>cases cs <;> simp [Zaj] at h;rfl
 all_goals first | (simp [Zaj] at h;done) | rfl
theorem Zq7 {ρ:Rho}:∀ {xs:List AVal},xs.all Zaj=true->Zp ρ (xs.map Zat)=xs.map Zat
 | [],_=>rfl
 | x::xs,h=>by
  simp only [X3,Xh] at h
  simp only [XA,Zp,Zpa h.1,Zq7 h.2]
theorem Zyl {ρ:Rho} {x:AVal} (h:Z7 x=true):Ze ρ (ZH x)=ZH x:=by
 rcases Zmf x with ⟨cs,rfl⟩ | hn
 ·simp only [Z7] at h
  simp only [ZH,Ze];rw [Zq7 h]
 ·rw [(Zf9 hn).1] at h
  rw [(Zf9 hn).2];exact Zpa h
theorem ZeK {ρ:Rho}:∀ {xs:List AVal},xs.all Z7=true->Zp ρ (xs.map ZH)=xs.map ZH
 | [],_=>rfl
 | x::xs,h=>by
  simp only [X3,Xh] at h
  simp only [XA,Zp,Zyl h.1,ZeK h.2]
theorem ZrI {O:Zz} {bf:Nat->Bool} {σ:Za} {sq f own:Nat} {view:Bool} {args:List AVal} (hb:bf f=false) (h:args.all Z7=true) :
  Zr O bf σ sq f own view args=Z9 σ σ [] [] sq own (Z4 view 0 (O f (args.map ZH) [])):=by
 unfold Zr Zbt
 rw [hb]
 simp only [Xf,if_false,Zfj h]
 have h1:Zo σ []=σ:=rfl
 rw [h1,ZeI h]
 have h2:Zj σ 1000 [] []=[]:=rfl
 rw [h2]
 unfold ZaS
 simp only [Ww,if_true,ZeK h,Zi,XT]
theorem Zrv (σ:Za) (sq own:Nat) (r:AVal) (h:Ze (Zah [] [] sq) r=r):Z9 σ σ [] [] sq own (some (r,[]))=some (r,σ,{}):=by
 simp only [Z9,List.isEmpty_nil,Wh,if_true,ZdE,Bool.not_true,XaD,Xf,if_false]
 split
 ·rfl
 ·rw [h]
end
section
section
variable (ρ:Rho) (σ:Za)
theorem Zsk  : Zab (.top)=false:=rfl
theorem ZDU  : Zab (.any)=false:=rfl
theorem ZCe (k:IntKind) (n:Int):Zab (.int k n)=false:=rfl
theorem ZFU (b:Bool):Zab (.bool b)=false:=rfl
theorem ZHX (l:List UInt8):Zab (.str l)=false:=rfl
theorem Zuy  : Zab (.nilp)=false:=rfl
theorem ZIr (t:Nat) (o:Nat):Zab (.ref t o)=false:=rfl
theorem ZBa (t:Nat) (g:Nat) (i:Nat) (o:Nat):Zab (.eref t g i o)=false:=rfl
theorem ZHs (cs:List AVal) (o:Nat):Zab (.iptr cs o)=false:=rfl
theorem ZHW (x:Bool) (xs:List AVal):Zab (.lst x xs)=false:=rfl
theorem ZAN (t:Nat) (g:Nat) (lo:Nat) (n:Nat):Zab (.sl t g lo n)=false:=rfl
theorem ZEo (cs:List AVal):Zab (.agg cs)=false:=rfl
theorem ZG1 (vs:List AVal):Zab (.tup vs)=false:=rfl
theorem ZDJ (f:Nat) (caps:List AVal):Zab (.fn f caps)=false:=rfl
theorem ZwW  : Zab (.nilm)=false:=rfl
theorem ZHS (t:Nat):Zab (.map t)=false:=rfl
theorem Zu9 (t j o:Nat):Zab (.nref t j o)=false:=rfl
theorem ZIn (t j:Nat) (nx:Bool):Zab (.mapg t j nx)=false:=by cases nx <;> rfl
theorem ZuX  : Zab (.nili)=false:=rfl
theorem ZEz (t:Nat) (x:AVal):Zab (.iface t x)=false:=rfl
theorem ZDr (x:AVal):Zab (.pan x)=true:=rfl
theorem Zzm  : ZI (.top)=false:=rfl
theorem ZvS  : ZI (.any)=true:=rfl
theorem ZGA (k:IntKind) (n:Int):ZI (.int k n)=true:=rfl
theorem Zu7 (b:Bool):ZI (.bool b)=true:=rfl
theorem ZzY (l:List UInt8):ZI (.str l)=true:=rfl
theorem ZzN  : ZI (.nilp)=true:=rfl
theorem ZAp (t:Nat) (o:Nat):ZI (.ref t o)=true:=rfl
theorem Zyc (t:Nat) (g:Nat) (i:Nat) (o:Nat):ZI (.eref t g i o)=true:=rfl
theorem Zv7 (cs:List AVal) (o:Nat):ZI (.iptr cs o)=true:=rfl
theorem ZC5 (x:Bool) (xs:List AVal):ZI (.lst x xs)=true:=rfl
theorem ZvB (t:Nat) (g:Nat) (lo:Nat) (n:Nat):ZI (.sl t g lo n)=true:=rfl
theorem Zxh (cs:List AVal):ZI (.agg cs)=false:=rfl
theorem Zy7 (vs:List AVal):ZI (.tup vs)=false:=rfl
theorem ZyV (f:Nat) (caps:List AVal):ZI (.fn f caps)=true:=rfl
theorem Zw8  : ZI (.nilm)=true:=rfl
theorem ZBu (t:Nat):ZI (.map t)=true:=rfl
theorem ZHm (t j o:Nat):ZI (.nref t j o)=true:=rfl
theorem ZtZ (t j:Nat) (nx:Bool):ZI (.mapg t j nx)=true:=by cases nx <;> rfl
theorem ZCL  : ZI (.nili)=true:=rfl
theorem Zvn (t:Nat) (x:AVal):ZI (.iface t x)=true:=rfl
theorem ZxC (x:AVal):ZI (.pan x)=false:=rfl
theorem ZHl  : Za8 (.top)=false:=rfl
theorem Zs5  : Za8 (.any)=true:=rfl
theorem ZAx (k:IntKind) (n:Int):Za8 (.int k n)=true:=rfl
theorem ZEm (b:Bool):Za8 (.bool b)=true:=rfl
theorem ZDM (l:List UInt8):Za8 (.str l)=true:=rfl
theorem ZBT  : Za8 (.nilp)=true:=rfl
theorem Zzo (t:Nat) (o:Nat):Za8 (.ref t o)=true:=rfl
theorem ZAQ (t:Nat) (g:Nat) (i:Nat) (o:Nat):Za8 (.eref t g i o)=true:=rfl
theorem ZzZ (cs:List AVal) (o:Nat):Za8 (.iptr cs o)=true:=rfl
theorem ZHy (x:Bool) (xs:List AVal):Za8 (.lst x xs)=true:=rfl
theorem Ztb (t:Nat) (g:Nat) (lo:Nat) (n:Nat):Za8 (.sl t g lo n)=true:=rfl
theorem Zz3 (cs:List AVal):Za8 (.agg cs)=true:=rfl
theorem ZyS (vs:List AVal):Za8 (.tup vs)=true:=rfl
theorem ZwQ (f:Nat) (caps:List AVal):Za8 (.fn f caps)=true:=rfl
theorem ZF6  : Za8 (.nilm)=true:=rfl
theorem ZJj (t:Nat):Za8 (.map t)=true:=rfl
theorem ZvK (t j o:Nat):Za8 (.nref t j o)=true:=rfl
theorem Zxo (t j:Nat) (nx:Bool):Za8 (.mapg t j nx)=true:=by cases nx <;> rfl
theorem ZuL  : Za8 (.nili)=true:=rfl
theorem ZDO (t:Nat) (x:AVal):Za8 (.iface t x)=true:=rfl
theorem ZAs (x:AVal):Za8 (.pan x)=true:=rfl
theorem ZzC  : Zag (.top)=false:=rfl
theorem Zxx  : Zag (.any)=false:=rfl
theorem ZIk (k:IntKind) (n:Int):Zag (.int k n)=true:=rfl
theorem Zve (b:Bool):Zag (.bool b)=true:=rfl
theorem Zy9 (l:List UInt8):Zag (.str l)=true:=rfl
theorem Zye  : Zag (.nilp)=true:=rfl
theorem ZIK (t:Nat) (o:Nat):Zag (.ref t o)=false:=rfl
theorem ZvP (t:Nat) (g:Nat) (i:Nat) (o:Nat):Zag (.eref t g i o)=false:=rfl
theorem ZCQ (cs:List AVal) (o:Nat):Zag (.iptr cs o)=false:=rfl
theorem ZET (x:Bool) (xs:List AVal):Zag (.lst x xs)=false:=rfl
theorem ZHB (t:Nat) (g:Nat) (lo:Nat) (n:Nat):Zag (.sl t g lo n)=false:=rfl
theorem ZGy (cs:List AVal):Zag (.agg cs)=false:=rfl
theorem Zzp (vs:List AVal):Zag (.tup vs)=false:=rfl
theorem ZFX (f:Nat) (caps:List AVal):Zag (.fn f caps)=false:=rfl
theorem ZCF  : Zag (.nilm)=true:=rfl
theorem ZHJ (t:Nat):Zag (.map t)=false:=rfl
theorem ZDP (t j o:Nat):Zag (.nref t j o)=false:=rfl
theorem Zwt (t j:Nat) (nx:Bool):Zag (.mapg t j nx)=false:=by cases nx <;> rfl
theorem ZFF  : Zag (.nili)=true:=rfl
theorem Ztq (t:Nat) (x:AVal):Zag (.iface t x)=false:=rfl
theorem Zv9 (x:AVal):Zag (.pan x)=false:=rfl
theorem Zzq  : ZaE (.top)=false:=rfl
theorem ZF7  : ZaE (.any)=false:=rfl
theorem ZsC (k:IntKind) (n:Int):ZaE (.int k n)=true:=rfl
theorem Zx5 (b:Bool):ZaE (.bool b)=true:=rfl
theorem Zz8 (l:List UInt8):ZaE (.str l)=true:=rfl
theorem ZEP  : ZaE (.nilp)=true:=rfl
theorem ZxK (t:Nat) (o:Nat):ZaE (.ref t o)=false:=rfl
theorem Zvz (t:Nat) (g:Nat) (i:Nat) (o:Nat):ZaE (.eref t g i o)=false:=rfl
theorem ZDs (cs:List AVal) (o:Nat):ZaE (.iptr cs o)=false:=rfl
theorem Ztl (x:Bool) (xs:List AVal):ZaE (.lst x xs)=false:=rfl
theorem ZDn (t:Nat) (g:Nat) (lo:Nat) (n:Nat):ZaE (.sl t g lo n)=false:=rfl
theorem ZD0 (cs:List AVal):ZaE (.agg cs)=cs.all Zag:=rfl
theorem ZGI (vs:List AVal):ZaE (.tup vs)=false:=rfl
theorem ZD3 (f:Nat) (caps:List AVal):ZaE (.fn f caps)=false:=rfl
theorem ZsI  : ZaE (.nilm)=true:=rfl
theorem ZyK (t:Nat):ZaE (.map t)=false:=rfl
theorem ZB8 (t j o:Nat):ZaE (.nref t j o)=false:=rfl
theorem ZI3 (t j:Nat) (nx:Bool):ZaE (.mapg t j nx)=false:=by cases nx <;> rfl
theorem Zxs  : ZaE (.nili)=true:=rfl
theorem ZIi (t:Nat) (x:AVal):ZaE (.iface t x)=false:=rfl
theorem ZA7 (x:AVal):ZaE (.pan x)=false:=rfl
theorem ZD6  : ZaO (.top)=false:=rfl
theorem Zun  : ZaO (.any)=false:=rfl
theorem ZFC (k:IntKind) (n:Int):ZaO (.int k n)=true:=rfl
theorem ZAH (b:Bool):ZaO (.bool b)=true:=rfl
theorem ZsF (l:List UInt8):ZaO (.str l)=true:=rfl
theorem ZFE  : ZaO (.nilp)=true:=rfl
theorem ZFR (t:Nat) (o:Nat):ZaO (.ref t o)=false:=rfl
theorem ZDk (t:Nat) (g:Nat) (i:Nat) (o:Nat):ZaO (.eref t g i o)=false:=rfl
theorem ZwX (cs:List AVal) (o:Nat):ZaO (.iptr cs o)=false:=rfl
theorem ZyR (x:Bool) (xs:List AVal):ZaO (.lst x xs)=false:=rfl
theorem ZGt (t:Nat) (g:Nat) (lo:Nat) (n:Nat):ZaO (.sl t g lo n)=false:=rfl
theorem ZGV (cs:List AVal):ZaO (.agg cs)=cs.all Zag:=rfl
theorem ZGv (vs:List AVal):ZaO (.tup vs)=vs.all ZaE:=rfl
theorem ZvD (f:Nat) (caps:List AVal):ZaO (.fn f caps)=false:=rfl
theorem ZB6  : ZaO (.nilm)=true:=rfl
theorem ZGs (t:Nat):ZaO (.map t)=false:=rfl
theorem ZE9 (t j o:Nat):ZaO (.nref t j o)=false:=rfl
theorem ZDt (t j:Nat) (nx:Bool):ZaO (.mapg t j nx)=false:=by cases nx <;> rfl
theorem ZGh  : ZaO (.nili)=true:=rfl
theorem Ztv (t:Nat) (x:AVal):ZaO (.iface t x)=false:=rfl
theorem ZsN  : Zaj (.top)=false:=rfl
theorem Zsn  : Zaj (.any)=false:=rfl
theorem ZEq (k:IntKind) (n:Int):Zaj (.int k n)=true:=rfl
theorem ZvM (b:Bool):Zaj (.bool b)=true:=rfl
theorem Zwf (l:List UInt8):Zaj (.str l)=true:=rfl
theorem Zy4  : Zaj (.nilp)=true:=rfl
theorem ZIp (t:Nat) (o:Nat):Zaj (.ref t o)=false:=rfl
theorem ZFK (t:Nat) (g:Nat) (i:Nat) (o:Nat):Zaj (.eref t g i o)=false:=rfl
theorem ZBC (cs:List AVal) (o:Nat):Zaj (.iptr cs o)=false:=rfl
theorem ZAa (x:Bool) (xs:List AVal):Zaj (.lst x xs)=true:=rfl
theorem ZEV (t:Nat) (g:Nat) (lo:Nat) (n:Nat):Zaj (.sl t g lo n)=false:=rfl
theorem ZuZ (cs:List AVal):Zaj (.agg cs)=false:=rfl
theorem Zva (vs:List AVal):Zaj (.tup vs)=false:=rfl
theorem Zz2  : Zaj (.nilm)=true:=rfl
theorem Zvc (t:Nat):Zaj (.map t)=false:=rfl
theorem Ztk (t j o:Nat):Zaj (.nref t j o)=false:=rfl
theorem ZB5 (t j:Nat) (nx:Bool):Zaj (.mapg t j nx)=false:=by cases nx <;> rfl
theorem ZDW  : Zaj (.nili)=true:=rfl
theorem ZtT (t:Nat) (x:AVal):Zaj (.iface t x)=false:=rfl
theorem ZC6 (x:AVal):Zaj (.pan x)=false:=rfl
theorem ZHf  : Z7 (.top)=false:=rfl
theorem ZAU  : Z7 (.any)=false:=rfl
theorem ZEu (k:IntKind) (n:Int):Z7 (.int k n)=true:=rfl
theorem ZEf (b:Bool):Z7 (.bool b)=true:=rfl
theorem ZGF (l:List UInt8):Z7 (.str l)=true:=rfl
theorem Zx0  : Z7 (.nilp)=true:=rfl
theorem ZIP (t:Nat) (o:Nat):Z7 (.ref t o)=false:=rfl
theorem ZsD (t:Nat) (g:Nat) (i:Nat) (o:Nat):Z7 (.eref t g i o)=false:=rfl
theorem ZCg (cs:List AVal) (o:Nat):Z7 (.iptr cs o)=false:=rfl
theorem ZIs (x:Bool) (xs:List AVal):Z7 (.lst x xs)=true:=rfl
theorem ZId (t:Nat) (g:Nat) (lo:Nat) (n:Nat):Z7 (.sl t g lo n)=false:=rfl
theorem Zw7 (cs:List AVal):Z7 (.agg cs)=cs.all Zaj:=rfl
theorem ZtY (vs:List AVal):Z7 (.tup vs)=false:=rfl
theorem ZIS  : Z7 (.nilm)=true:=rfl
theorem ZDH (t:Nat):Z7 (.map t)=false:=rfl
theorem ZBH (t j o:Nat):Z7 (.nref t j o)=false:=rfl
theorem ZzG (t j:Nat) (nx:Bool):Z7 (.mapg t j nx)=false:=by cases nx <;> rfl
theorem ZyU  : Z7 (.nili)=true:=rfl
theorem ZAb (t:Nat) (x:AVal):Z7 (.iface t x)=false:=rfl
theorem ZyX (x:AVal):Z7 (.pan x)=false:=rfl
theorem Zv6  : Zat (.top)=(.top):=rfl
theorem ZvU  : Zat (.any)=(.any):=rfl
theorem ZCx (k:IntKind) (n:Int):Zat (.int k n)=(.int k n):=rfl
theorem ZHk (b:Bool):Zat (.bool b)=(.bool b):=rfl
theorem ZHN (l:List UInt8):Zat (.str l)=(.str l):=rfl
theorem Zud  : Zat (.nilp)=(.nilp):=rfl
theorem ZGx (t:Nat) (o:Nat):Zat (.ref t o)=(.ref t o):=rfl
theorem Zt3 (t:Nat) (g:Nat) (i:Nat) (o:Nat):Zat (.eref t g i o)=(.eref t g i o):=rfl
theorem Zum (cs:List AVal) (o:Nat):Zat (.iptr cs o)=(.iptr cs o):=rfl
theorem ZG8 (x:Bool) (xs:List AVal):Zat (.lst x xs)=.lst false xs:=rfl
theorem ZAS (t:Nat) (g:Nat) (lo:Nat) (n:Nat):Zat (.sl t g lo n)=(.sl t g lo n):=rfl
theorem Zvp (cs:List AVal):Zat (.agg cs)=(.agg cs):=rfl
theorem ZHD (vs:List AVal):Zat (.tup vs)=(.tup vs):=rfl
theorem ZCa (f:Nat) (caps:List AVal):Zat (.fn f caps)=(.fn f caps):=rfl
theorem ZAO  : Zat (.nilm)=(.nilm):=rfl
theorem ZGj (t:Nat):Zat (.map t)=(.map t):=rfl
theorem ZyG (t j o:Nat):Zat (.nref t j o)=(.nref t j o):=rfl
theorem ZBh (t j:Nat) (nx:Bool):Zat (.mapg t j nx)=(.mapg t j nx):=by cases nx <;> rfl
theorem ZDy  : Zat (.nili)=(.nili):=rfl
theorem ZxO (t:Nat) (x:AVal):Zat (.iface t x)=(.iface t x):=rfl
theorem ZuM (x:AVal):Zat (.pan x)=(.pan x):=rfl
theorem ZIQ  : ZH (.top)=(.top):=rfl
theorem ZIO  : ZH (.any)=(.any):=rfl
theorem ZDL (k:IntKind) (n:Int):ZH (.int k n)=(.int k n):=rfl
theorem ZHp (b:Bool):ZH (.bool b)=(.bool b):=rfl
theorem ZvY (l:List UInt8):ZH (.str l)=(.str l):=rfl
theorem ZGG  : ZH (.nilp)=(.nilp):=rfl
theorem ZJb (t:Nat) (o:Nat):ZH (.ref t o)=(.ref t o):=rfl
theorem ZvV (t:Nat) (g:Nat) (i:Nat) (o:Nat):ZH (.eref t g i o)=(.eref t g i o):=rfl
theorem ZHx (cs:List AVal) (o:Nat):ZH (.iptr cs o)=(.iptr cs o):=rfl
theorem Zz4 (x:Bool) (xs:List AVal):ZH (.lst x xs)=.lst false xs:=rfl
theorem ZB2 (t:Nat) (g:Nat) (lo:Nat) (n:Nat):ZH (.sl t g lo n)=(.sl t g lo n):=rfl
theorem ZwL (cs:List AVal):ZH (.agg cs)=.agg (cs.map Zat):=rfl
theorem Zxj (vs:List AVal):ZH (.tup vs)=(.tup vs):=rfl
theorem ZAg (f:Nat) (caps:List AVal):ZH (.fn f caps)=(.fn f caps):=rfl
theorem ZCO  : ZH (.nilm)=(.nilm):=rfl
theorem ZvA (t:Nat):ZH (.map t)=(.map t):=rfl
theorem ZF8 (t j o:Nat):ZH (.nref t j o)=(.nref t j o):=rfl
theorem ZBf (t j:Nat) (nx:Bool):ZH (.mapg t j nx)=(.mapg t j nx):=by cases nx <;> rfl
theorem ZCv  : ZH (.nili)=(.nili):=rfl
theorem ZxV (t:Nat) (x:AVal):ZH (.iface t x)=(.iface t x):=rfl
theorem ZFN (x:AVal):ZH (.pan x)=(.pan x):=rfl
theorem ZAL  : AVal.cells (.top)=[(.top)]:=rfl
theorem ZtE  : AVal.cells (.any)=[(.any)]:=rfl
theorem ZyD (k:IntKind) (n:Int):AVal.cells (.int k n)=[(.int k n)]:=rfl
theorem ZFe (b:Bool):AVal.cells (.bool b)=[(.bool b)]:=rfl
theorem Zt2 (l:List UInt8):AVal.cells (.str l)=[(.str l)]:=rfl
theorem ZyL  : AVal.cells (.nilp)=[(.nilp)]:=rfl
theorem Zxw (t:Nat) (o:Nat):AVal.cells (.ref t o)=[(.ref t o)]:=rfl
theorem Zs6 (t:Nat) (g:Nat) (i:Nat) (o:Nat):AVal.cells (.eref t g i o)=[(.eref t g i o)]:=rfl
theorem Zyk (cs:List AVal) (o:Nat):AVal.cells (.iptr cs o)=[(.iptr cs o)]:=rfl
theorem Zyi (x:Bool) (xs:List AVal):AVal.cells (.lst x xs)=[(.lst x xs)]:=rfl
theorem ZzL (t:Nat) (g:Nat) (lo:Nat) (n:Nat):AVal.cells (.sl t g lo n)=[(.sl t g lo n)]:=rfl
theorem ZGr (cs:List AVal):AVal.cells (.agg cs)=cs:=rfl
theorem Zu8 (vs:List AVal):AVal.cells (.tup vs)=[(.tup vs)]:=rfl
theorem ZDX (f:Nat) (caps:List AVal):AVal.cells (.fn f caps)=[(.fn f caps)]:=rfl
theorem ZHF  : AVal.cells (.nilm)=[(.nilm)]:=rfl
theorem ZEw (t:Nat):AVal.cells (.map t)=[(.map t)]:=rfl
theorem ZHv (t j o:Nat):AVal.cells (.nref t j o)=[(.nref t j o)]:=rfl
theorem Zyx (t j:Nat) (nx:Bool):AVal.cells (.mapg t j nx)=[(.mapg t j nx)]:=by cases nx <;> rfl
theorem ZzJ  : AVal.cells (.nili)=[(.nili)]:=rfl
theorem ZxY (t:Nat) (x:AVal):AVal.cells (.iface t x)=[(.iface t x)]:=rfl
theorem ZGL (x:AVal):AVal.cells (.pan x)=[(.pan x)]:=rfl
theorem Zv5  : Zad (.top)=(.top):=rfl
theorem ZGa  : Zad (.any)=(.any):=rfl
theorem ZsV (k:IntKind) (n:Int):Zad (.int k n)=(.int k n):=rfl
theorem Zyt (b:Bool):Zad (.bool b)=(.bool b):=rfl
theorem Zzc (l:List UInt8):Zad (.str l)=(.str l):=rfl
theorem ZHK  : Zad (.nilp)=(.nilp):=rfl
theorem ZyA (t:Nat) (o:Nat):Zad (.ref t o)=(.ref t o):=rfl
theorem Zze (t:Nat) (g:Nat) (i:Nat) (o:Nat):Zad (.eref t g i o)=(.eref t g i o):=rfl
theorem ZuT (cs:List AVal) (o:Nat):Zad (.iptr cs o)=(.iptr cs o):=rfl
theorem ZGw (x:Bool) (xs:List AVal):Zad (.lst x xs)=(.lst x xs):=rfl
theorem ZIY (t:Nat) (g:Nat) (lo:Nat) (n:Nat):Zad (.sl t g lo n)=(.sl t g lo n):=rfl
theorem Zv1 (cs:List AVal):Zad (.agg cs)=(.agg cs):=rfl
theorem Zsr (vs:List AVal):Zad (.tup vs)=(.tup vs):=rfl
theorem Zyg (f:Nat) (caps:List AVal):Zad (.fn f caps)=(.fn f caps):=rfl
theorem ZwD  : Zad (.nilm)=(.nilm):=rfl
theorem Zvo (t:Nat):Zad (.map t)=(.map t):=rfl
theorem ZC4 (t j o:Nat):Zad (.nref t j o)=(.nref t j o):=rfl
theorem ZGe (t j:Nat) (nx:Bool):Zad (.mapg t j nx)=(.mapg t j nx):=by cases nx <;> rfl
theorem ZCd  : Zad (.nili)=(.nili):=rfl
theorem Ztu (t:Nat) (x:AVal):Zad (.iface t x)=(.iface t x):=rfl
theorem ZFL (x:AVal):Zad (.pan x)=x:=rfl
theorem ZEA  : ZT (.top)=4:=rfl
theorem ZtK  : ZT (.any)=4:=rfl
theorem ZxF (k:IntKind) (n:Int):ZT (.int k n)=0:=rfl
theorem ZsW (b:Bool):ZT (.bool b)=1:=rfl
theorem ZH9 (l:List UInt8):ZT (.str l)=2:=rfl
theorem ZGg  : ZT (.nilp)=4:=rfl
theorem ZH3 (t:Nat) (o:Nat):ZT (.ref t o)=4:=rfl
theorem ZFV (t:Nat) (g:Nat) (i:Nat) (o:Nat):ZT (.eref t g i o)=4:=rfl
theorem ZBY (cs:List AVal) (o:Nat):ZT (.iptr cs o)=4:=rfl
theorem ZHE (x:Bool) (xs:List AVal):ZT (.lst x xs)=4:=rfl
theorem ZJc (t:Nat) (g:Nat) (lo:Nat) (n:Nat):ZT (.sl t g lo n)=4:=rfl
theorem ZAc (cs:List AVal):ZT (.agg cs)=4:=rfl
theorem Zyj (vs:List AVal):ZT (.tup vs)=4:=rfl
theorem ZtW (f:Nat) (caps:List AVal):ZT (.fn f caps)=4:=rfl
theorem ZEG  : ZT (.nilm)=4:=rfl
theorem Zxl (t:Nat):ZT (.map t)=4:=rfl
theorem Zzj (t j o:Nat):ZT (.nref t j o)=4:=rfl
theorem ZtF (t j:Nat) (nx:Bool):ZT (.mapg t j nx)=4:=by cases nx <;> rfl
theorem ZzE  : ZT (.nili)=4:=rfl
theorem ZH6 (t:Nat) (x:AVal):ZT (.iface t x)=4:=rfl
theorem ZHT (x:AVal):ZT (.pan x)=4:=rfl
theorem Zx4  : ZU (.top)=[]:=rfl
theorem ZFD  : ZU (.any)=[]:=rfl
theorem ZES (k:IntKind) (n:Int):ZU (.int k n)=[]:=rfl
theorem ZxS (b:Bool):ZU (.bool b)=[]:=rfl
theorem ZGT (l:List UInt8):ZU (.str l)=[]:=rfl
theorem Zso  : ZU (.nilp)=[]:=rfl
theorem ZAZ (t:Nat) (o:Nat):ZU (.ref t o)=[t]:=rfl
theorem ZDF (t:Nat) (g:Nat) (i:Nat) (o:Nat):ZU (.eref t g i o)=[t]:=rfl
theorem Zxk (cs:List AVal) (o:Nat):ZU (.iptr cs o)=[]:=rfl
theorem ZBl (x:Bool) (xs:List AVal):ZU (.lst x xs)=[]:=rfl
theorem ZFu (t:Nat) (g:Nat) (lo:Nat) (n:Nat):ZU (.sl t g lo n)=[t]:=rfl
theorem Zzr (cs:List AVal):ZU (.agg cs)=Zu cs:=rfl
theorem Zsu (vs:List AVal):ZU (.tup vs)=Zu vs:=rfl
theorem Zsx (f:Nat) (caps:List AVal):ZU (.fn f caps)=Zu caps:=rfl
theorem ZDb  : ZU (.nilm)=[]:=rfl
theorem ZAw (t:Nat):ZU (.map t)=[t]:=rfl
theorem ZsJ (t j o:Nat):ZU (.nref t j o)=[t]:=rfl
theorem ZzI (t j:Nat) (nx:Bool):ZU (.mapg t j nx)=[t]:=by cases nx <;> rfl
theorem Zzk  : ZU (.nili)=[]:=rfl
theorem ZDD (t:Nat) (x:AVal):ZU (.iface t x)=ZU x:=rfl
theorem Zvi (x:AVal):ZU (.pan x)=ZU x:=rfl
theorem ZEB  : Ze ρ (.top)=(.top):=rfl
theorem ZAV  : Ze ρ (.any)=(.any):=rfl
theorem ZzX (k:IntKind) (n:Int):Ze ρ (.int k n)=(.int k n):=rfl
theorem ZCp (b:Bool):Ze ρ (.bool b)=(.bool b):=rfl
theorem Zw1 (l:List UInt8):Ze ρ (.str l)=(.str l):=rfl
theorem Zyr  : Ze ρ (.nilp)=(.nilp):=rfl
theorem ZIw (cs:List AVal) (o:Nat):Ze ρ (.iptr cs o)=(.iptr cs o):=rfl
theorem ZsT (x:Bool) (xs:List AVal):Ze ρ (.lst x xs)=(.lst x xs):=rfl
theorem ZxX (cs:List AVal):Ze ρ (.agg cs)=.agg (Zp ρ cs):=rfl
theorem ZEO (vs:List AVal):Ze ρ (.tup vs)=.tup (Zp ρ vs):=rfl
theorem ZBo (f:Nat) (caps:List AVal):Ze ρ (.fn f caps)=.fn f (Zp ρ caps):=rfl
theorem ZAv  : Ze ρ (.nilm)=(.nilm):=rfl
theorem Zts  : Ze ρ (.nili)=(.nili):=rfl
theorem ZuR (t:Nat) (x:AVal):Ze ρ (.iface t x)=.iface t (Ze ρ x):=rfl
theorem ZHG (x:AVal):Ze ρ (.pan x)=.pan (Ze ρ x):=rfl
theorem ZF4 (f:Nat):Zaj (.fn f [])=true:=rfl
theorem ZGz (f:Nat):Z7 (.fn f [])=true:=rfl
theorem Zug (t:Nat) (x:AVal):ZaO (.pan (.iface t x))=Zag x:=rfl
theorem ZIx (live:List Nat) (tm:Tms):Zhy live (some (tm,σ,none))=some (.normal,keepL live tm,σ):=rfl
theorem ZBJ (live:List Nat) (tm:Tms) (x:AVal):Zhy live (some (tm,σ,some x))=some (.panic x,[],σ):=rfl
theorem Zte (live:List Nat):Zhy live none=none:=rfl
theorem ZEy (t o:Nat):Ze ρ (.ref t o)=(match ρ t 0 with | some (t',0)=>.ref t' o | _=>.any):=rfl
theorem ZG9 (t:Nat):Ze ρ (.map t)=(match ρ t 0 with | some (t',0)=>.map t' | _=>.any):=rfl
theorem Zvt (t j o:Nat):Ze ρ (.nref t j o)=(match ρ t (1001+3*j) with | some (t',g')=>if g'=1001+3*j then .nref t' j o else .any | none=>.any):=rfl
theorem ZIo (t j:Nat) (nx:Bool):Ze ρ (.mapg t j nx)=(match ρ t (ZB j nx) with | some (t',g')=>if g'=ZB j nx then .mapg t' j nx else .any | none=>.any):=rfl
theorem ZCy (t g lo n:Nat):Ze ρ (.sl t g lo n)=(match ρ t g with | some (t',g')=>.sl t' g' lo n | none=>.any):=rfl
theorem ZDw (t g i o:Nat):Ze ρ (.eref t g i o)=(match ρ t g with | some (t',g')=>.eref t' g' i o | none=>.any):=rfl
theorem Zxf:Zu []=[]:=rfl
theorem ZFl (x:AVal) (xs:List AVal):Zu (x::xs)=ZU x++Zu xs:=rfl
theorem ZIa:Zp ρ []=[]:=rfl
theorem ZuO (x:AVal) (xs:List AVal):Zp ρ (x::xs)=Ze ρ x::Zp ρ xs:=rfl
end
end
section
mutual
def ZP:AVal->Bool
 | .ref _ _=>false
 | .eref _ _ _ _=>false
 | .sl _ _ _ _=>false
 | .map _=>false
 | .nref _ _ _=>false
 | .mapg _ _ _=>false
 | .agg cs=>ZbD cs
 | .tup vs=>ZbD vs
 | .fn _ vs=>ZbD vs
 | .iface _ x=>ZP x
 | .pan x=>ZP x
 | .top=>true
 | .any=>true
 | .int _ _=>true
 | .bool _=>true
 | .str _=>true
 | .nilp=>true
 | .nilm=>true
 | .nili=>true
 | .iptr _ _=>true
 | .lst _ _=>true
def ZbD:List AVal->Bool
 | []=>true
 | x::xs=>ZP x && ZbD xs
end
mutual
theorem Zcm (ρ:Rho):∀ (x:AVal),ZP x=true->Ze ρ x=x/\ZU x=[]
 | .ref _ _,h=>by simp [ZP] at h
 | .eref _ _ _ _,h=>by simp [ZP] at h
 | .sl _ _ _ _,h=>by simp [ZP] at h
 | .map _,h=>by simp [ZP] at h
 | .nref _ _ _,h=>by simp [ZP] at h
 | .mapg _ _ _,h=>by simp [ZP] at h
 | .agg cs,h=>by have:=Zdz ρ cs (by simpa only [ZP] using h);exact ⟨by simp only [Ze,this.1],by simp only [ZU,this.2]⟩
 | .tup cs,h=>by have:=Zdz ρ cs (by simpa only [ZP] using h);exact ⟨by simp only [Ze,this.1],by simp only [ZU,this.2]⟩
 | .fn f cs,h=>by have:=Zdz ρ cs (by simpa only [ZP] using h);exact ⟨by simp only [Ze,this.1],by simp only [ZU,this.2]⟩
 | .iface t x,h=>by have:=Zcm ρ x (by simpa only [ZP] using h);exact ⟨by simp only [Ze,this.1],by simp only [ZU,this.2]⟩
 | .pan x,h=>by have:=Zcm ρ x (by simpa only [ZP] using h);exact ⟨by simp only [Ze,this.1],by simp only [ZU,this.2]⟩
 | .top,_=>⟨rfl,rfl⟩
 | .any,_=>⟨rfl,rfl⟩
 | .int _ _,_=>⟨rfl,rfl⟩
 | .bool _,_=>⟨rfl,rfl⟩
 | .str _,_=>⟨rfl,rfl⟩
 | .nilp,_=>⟨rfl,rfl⟩
 | .nilm,_=>⟨rfl,rfl⟩
 | .nili,_=>⟨rfl,rfl⟩
 | .iptr _ _,_=>⟨rfl,rfl⟩
 | .lst _ _,_=>⟨rfl,rfl⟩
theorem Zdz (ρ:Rho):∀ (xs:List AVal),ZbD xs=true->Zp ρ xs=xs/\Zu xs=[]
 | [],_=>⟨rfl,rfl⟩
 | x::xs,h=>by
  simp only [ZbD,Xh] at h
  have h1:=Zcm ρ x h.1
  have h2:=Zdz ρ xs h.2
  exact ⟨by simp only [Zp,h1.1,h2.1],by simp only [Zu,h1.2,h2.2,XE]⟩
end
theorem ZmZ {σ:Za} {r:AVal} (h:ZP r=true):Zar 0 σ r=some (r,[]):=by
 have h1:=Zcm (Zd σ 0 []) r h
 have hids:Zq 0 [r] σ=[]:=by
  unfold Zq
  simp only [Zu,h1.2,XE,List.range_zero,Wp]
  rfl
 unfold Zar gcA
 simp only [hids,Zp,Zi,h1.1]
def Zbk:AVal->AVal
 | .tup vs=>.tup (vs.map ZH)
 | x=>ZH x
def Zbl:AVal->Bool
 | .tup vs=>vs.all Z7
 | x=>Z7 x
def ZaY:AVal->Bool
 | .fn _ _=>false
 | _=>true
def Za2:AVal->Bool
 | .agg cs=>cs.all ZaY
 | x=>ZaY x
def Zbj:AVal->Bool
 | .tup vs=>vs.all Za2
 | x=>Za2 x
theorem Zu4 {k g n:Nat} {xs:List AVal} {σ:Za} {t:Nat} (hs:σ[t]?=some (.row g k xs)) (hn:n<=xs.length):Zcv 0 (some (.sl t g 0 n,σ))=some (.lst false (xs.take n),[]):=by
 have hv:viewR σ (.sl t g 0 n)=some (.lst false (xs.take n),[t]):=by
  simp only [viewR,ZbH,ZaT,Zaf,hs,Xw,hn,and_self,if_true,XaS]
 have e:Zcv 0 (some (.sl t g 0 n,σ))=(match viewR σ (.sl t g 0 n) with
  | some (r',ts)=>match gcA 0 [r'] (Zo σ ts) with
   | ([r''],σ')=>some (r'',σ')
   | _=>none
  | none=>none):=rfl
 rw [e,hv]
 exact ZmZ rfl
theorem ZHH {m:Nat} {fn:Z0} {tm:Tms} {σ:Za}:ZaJ m fn (some (.ret,tm,σ))=match resA tm σ fn.res with
  | some r=>Zar m σ r
  | none=>none:=rfl
theorem ZF5 {m:Nat} {fn:Z0} {tm:Tms} {σ:Za}:ZaJ m fn (some (.normal,tm,σ))=match resA tm σ fn.res with
  | some r=>Zar m σ r
  | none=>none:=rfl
theorem ZB3 {m:Nat} {fn:Z0} {tm:Tms} {σ:Za} {x:AVal}:ZaJ m fn (some (.panic x,tm,σ))=Zar m σ (.pan x):=rfl
theorem ZwV  : ZP (.top)=true:=rfl
theorem ZI9  : ZP (.any)=true:=rfl
theorem Zxz (k:IntKind) (n:Int):ZP (.int k n)=true:=rfl
theorem ZGm (b:Bool):ZP (.bool b)=true:=rfl
theorem Zzu (l:List UInt8):ZP (.str l)=true:=rfl
theorem ZIh  : ZP (.nilp)=true:=rfl
theorem ZD8 (t:Nat) (o:Nat):ZP (.ref t o)=false:=rfl
theorem ZE0 (t:Nat) (g:Nat) (i:Nat) (o:Nat):ZP (.eref t g i o)=false:=rfl
theorem ZHi (cs:List AVal) (o:Nat):ZP (.iptr cs o)=true:=rfl
theorem ZHn (x:Bool) (xs:List AVal):ZP (.lst x xs)=true:=rfl
theorem Zxm (t:Nat) (g:Nat) (lo:Nat) (n:Nat):ZP (.sl t g lo n)=false:=rfl
theorem ZtS (cs:List AVal):ZP (.agg cs)=ZbD cs:=rfl
theorem Zue (vs:List AVal):ZP (.tup vs)=ZbD vs:=rfl
theorem Zwn (f:Nat) (caps:List AVal):ZP (.fn f caps)=ZbD caps:=rfl
theorem Zxg  : ZP (.nilm)=true:=rfl
theorem ZIv (t:Nat):ZP (.map t)=false:=rfl
theorem ZIR (t j o:Nat):ZP (.nref t j o)=false:=rfl
theorem ZuP (t j:Nat) (nx:Bool):ZP (.mapg t j nx)=false:=by cases nx <;> rfl
theorem Zx6  : ZP (.nili)=true:=rfl
theorem Zw4 (t:Nat) (x:AVal):ZP (.iface t x)=ZP x:=rfl
theorem Zs3 (x:AVal):ZP (.pan x)=ZP x:=rfl
theorem ZFg  : ZaY (.top)=true:=rfl
theorem ZAd  : ZaY (.any)=true:=rfl
theorem ZHR (k:IntKind) (n:Int):ZaY (.int k n)=true:=rfl
theorem ZCb (b:Bool):ZaY (.bool b)=true:=rfl
theorem ZFk (l:List UInt8):ZaY (.str l)=true:=rfl
theorem Zwm  : ZaY (.nilp)=true:=rfl
theorem ZG3 (t:Nat) (o:Nat):ZaY (.ref t o)=true:=rfl
theorem ZCt (t:Nat) (g:Nat) (i:Nat) (o:Nat):ZaY (.eref t g i o)=true:=rfl
theorem ZIA (cs:List AVal) (o:Nat):ZaY (.iptr cs o)=true:=rfl
theorem Zyh (x:Bool) (xs:List AVal):ZaY (.lst x xs)=true:=rfl
theorem ZGK (t:Nat) (g:Nat) (lo:Nat) (n:Nat):ZaY (.sl t g lo n)=true:=rfl
theorem Zt8 (cs:List AVal):ZaY (.agg cs)=true:=rfl
theorem ZFt (vs:List AVal):ZaY (.tup vs)=true:=rfl
theorem Zzd (f:Nat) (caps:List AVal):ZaY (.fn f caps)=false:=rfl
theorem ZEa  : ZaY (.nilm)=true:=rfl
theorem Zub (t:Nat):ZaY (.map t)=true:=rfl
theorem ZDN (t j o:Nat):ZaY (.nref t j o)=true:=rfl
theorem ZEn (t j:Nat) (nx:Bool):ZaY (.mapg t j nx)=true:=by cases nx <;> rfl
theorem ZCP  : ZaY (.nili)=true:=rfl
theorem Zyw (t:Nat) (x:AVal):ZaY (.iface t x)=true:=rfl
theorem ZH5 (x:AVal):ZaY (.pan x)=true:=rfl
theorem ZxP  : Za2 (.top)=true:=rfl
theorem ZwC  : Za2 (.any)=true:=rfl
theorem ZC9 (k:IntKind) (n:Int):Za2 (.int k n)=true:=rfl
theorem Zuk (b:Bool):Za2 (.bool b)=true:=rfl
theorem ZGW (l:List UInt8):Za2 (.str l)=true:=rfl
theorem ZI6  : Za2 (.nilp)=true:=rfl
theorem Zxt (t:Nat) (o:Nat):Za2 (.ref t o)=true:=rfl
theorem ZA2 (t:Nat) (g:Nat) (i:Nat) (o:Nat):Za2 (.eref t g i o)=true:=rfl
theorem ZGE (cs:List AVal) (o:Nat):Za2 (.iptr cs o)=true:=rfl
theorem ZzQ (x:Bool) (xs:List AVal):Za2 (.lst x xs)=true:=rfl
theorem ZBk (t:Nat) (g:Nat) (lo:Nat) (n:Nat):Za2 (.sl t g lo n)=true:=rfl
theorem Zw6 (cs:List AVal):Za2 (.agg cs)=cs.all ZaY:=rfl
theorem ZEN (vs:List AVal):Za2 (.tup vs)=true:=rfl
theorem ZwK (f:Nat) (caps:List AVal):Za2 (.fn f caps)=false:=rfl
theorem ZH2  : Za2 (.nilm)=true:=rfl
theorem ZAP (t:Nat):Za2 (.map t)=true:=rfl
theorem ZD1 (t j o:Nat):Za2 (.nref t j o)=true:=rfl
theorem Zv8 (t j:Nat) (nx:Bool):Za2 (.mapg t j nx)=true:=by cases nx <;> rfl
theorem Zti  : Za2 (.nili)=true:=rfl
theorem ZzM (t:Nat) (x:AVal):Za2 (.iface t x)=true:=rfl
theorem ZBV (x:AVal):Za2 (.pan x)=true:=rfl
theorem ZCN  : Zbj (.top)=true:=rfl
theorem ZBW  : Zbj (.any)=true:=rfl
theorem ZIj (k:IntKind) (n:Int):Zbj (.int k n)=true:=rfl
theorem ZFG (b:Bool):Zbj (.bool b)=true:=rfl
theorem ZDz (l:List UInt8):Zbj (.str l)=true:=rfl
theorem ZyE  : Zbj (.nilp)=true:=rfl
theorem ZBj (t:Nat) (o:Nat):Zbj (.ref t o)=true:=rfl
theorem ZA4 (t:Nat) (g:Nat) (i:Nat) (o:Nat):Zbj (.eref t g i o)=true:=rfl
theorem ZEp (cs:List AVal) (o:Nat):Zbj (.iptr cs o)=true:=rfl
theorem ZDu (x:Bool) (xs:List AVal):Zbj (.lst x xs)=true:=rfl
theorem ZDl (t:Nat) (g:Nat) (lo:Nat) (n:Nat):Zbj (.sl t g lo n)=true:=rfl
theorem ZzB (cs:List AVal):Zbj (.agg cs)=cs.all ZaY:=rfl
theorem ZCz (vs:List AVal):Zbj (.tup vs)=vs.all Za2:=rfl
theorem ZH1 (f:Nat) (caps:List AVal):Zbj (.fn f caps)=false:=rfl
theorem ZHI  : Zbj (.nilm)=true:=rfl
theorem ZEc (t:Nat):Zbj (.map t)=true:=rfl
theorem ZAm (t j o:Nat):Zbj (.nref t j o)=true:=rfl
theorem ZxI (t j:Nat) (nx:Bool):Zbj (.mapg t j nx)=true:=by cases nx <;> rfl
theorem ZsX  : Zbj (.nili)=true:=rfl
theorem ZFi (t:Nat) (x:AVal):Zbj (.iface t x)=true:=rfl
theorem ZIE (x:AVal):Zbj (.pan x)=true:=rfl
theorem ZuK  : Zbl (.top)=false:=rfl
theorem ZtC  : Zbl (.any)=false:=rfl
theorem ZxU (k:IntKind) (n:Int):Zbl (.int k n)=true:=rfl
theorem ZwJ (b:Bool):Zbl (.bool b)=true:=rfl
theorem ZG5 (l:List UInt8):Zbl (.str l)=true:=rfl
theorem ZGS  : Zbl (.nilp)=true:=rfl
theorem Zv4 (t:Nat) (o:Nat):Zbl (.ref t o)=false:=rfl
theorem ZE6 (t:Nat) (g:Nat) (i:Nat) (o:Nat):Zbl (.eref t g i o)=false:=rfl
theorem ZvL (cs:List AVal) (o:Nat):Zbl (.iptr cs o)=false:=rfl
theorem ZwG (x:Bool) (xs:List AVal):Zbl (.lst x xs)=true:=rfl
theorem ZvI (t:Nat) (g:Nat) (lo:Nat) (n:Nat):Zbl (.sl t g lo n)=false:=rfl
theorem ZIH (cs:List AVal):Zbl (.agg cs)=cs.all Zaj:=rfl
theorem ZxJ (vs:List AVal):Zbl (.tup vs)=vs.all Z7:=rfl
theorem Zwa  : Zbl (.nilm)=true:=rfl
theorem ZCM (t:Nat):Zbl (.map t)=false:=rfl
theorem ZBI (t j o:Nat):Zbl (.nref t j o)=false:=rfl
theorem ZvR (t j:Nat) (nx:Bool):Zbl (.mapg t j nx)=false:=by cases nx <;> rfl
theorem ZCC  : Zbl (.nili)=true:=rfl
theorem ZzK (t:Nat) (x:AVal):Zbl (.iface t x)=false:=rfl
theorem ZFP (x:AVal):Zbl (.pan x)=false:=rfl
theorem ZxE  : Zbk (.top)=(.top):=rfl
theorem ZJa  : Zbk (.any)=(.any):=rfl
theorem Zym (k:IntKind) (n:Int):Zbk (.int k n)=(.int k n):=rfl
theorem Zw0 (b:Bool):Zbk (.bool b)=(.bool b):=rfl
theorem ZsA (l:List UInt8):Zbk (.str l)=(.str l):=rfl
theorem ZG2  : Zbk (.nilp)=(.nilp):=rfl
theorem ZsK (t:Nat) (o:Nat):Zbk (.ref t o)=(.ref t o):=rfl
theorem Zvx (t:Nat) (g:Nat) (i:Nat) (o:Nat):Zbk (.eref t g i o)=(.eref t g i o):=rfl
theorem ZzV (cs:List AVal) (o:Nat):Zbk (.iptr cs o)=(.iptr cs o):=rfl
theorem ZzF (x:Bool) (xs:List AVal):Zbk (.lst x xs)=.lst false xs:=rfl
theorem ZC3 (t:Nat) (g:Nat) (lo:Nat) (n:Nat):Zbk (.sl t g lo n)=(.sl t g lo n):=rfl
theorem ZIb (cs:List AVal):Zbk (.agg cs)=.agg (cs.map Zat):=rfl
theorem ZA0 (vs:List AVal):Zbk (.tup vs)=.tup (vs.map ZH):=rfl
theorem ZE2 (f:Nat) (caps:List AVal):Zbk (.fn f caps)=(.fn f caps):=rfl
theorem ZEC  : Zbk (.nilm)=(.nilm):=rfl
theorem Zyy (t:Nat):Zbk (.map t)=(.map t):=rfl
theorem ZIe (t j o:Nat):Zbk (.nref t j o)=(.nref t j o):=rfl
theorem Zsy (t j:Nat) (nx:Bool):Zbk (.mapg t j nx)=(.mapg t j nx):=by cases nx <;> rfl
theorem ZIq  : Zbk (.nili)=(.nili):=rfl
theorem ZAW (t:Nat) (x:AVal):Zbk (.iface t x)=(.iface t x):=rfl
theorem Zvf (x:AVal):Zbk (.pan x)=(.pan x):=rfl
theorem ZBL:ZbD []=true:=rfl
theorem Zyp (x:AVal) (xs:List AVal):ZbD (x::xs)=(ZP x && ZbD xs):=rfl
theorem ZzA (f:Nat):Zbl (.fn f [])=true:=rfl
theorem ZsZ (p q:Bool):(if p=true then q else false)=(p && q):=by cases p <;> rfl
theorem ZBt (p q:Bool):(if p=true then true else q)=(p || q):=by cases p <;> rfl
theorem ZuJ (p q:Bool):(if p=true then false else q)=(!p && q):=by cases p <;> rfl
theorem Zzf (p q:Bool):(if p=true then q else true)=(!p || q):=by cases p <;> rfl
theorem ZF1 (p q:Bool):(if p=false then q else false)=(!p && q):=by cases p <;> rfl
theorem Zx3 (p q:Bool):(if p=false then true else q)=(!p || q):=by cases p <;> rfl
theorem ZCm (p q:Bool):(if p=false then false else q)=(p && q):=by cases p <;> rfl
theorem Zzs (p q:Bool):(if p=false then q else true)=(p || q):=by cases p <;> rfl
section
def ZbM (o:AOp):AOp:=⟨o.dst,o.ins,o.guard,[]⟩
def Zbv:Zc->Zc
 | .region ops chk live=>.region (ops.map ZbM) chk live
 | .seq a b=>.seq (Zbv a) (Zbv b)
 | .cond c a b=>.cond c (Zbv a) (Zbv b)
 | .block id c=>.block id (Zbv c)
 | .loop live c=>.loop live (Zbv c)
 | .range pre live ms en b1 bg ent body rest=>.range (pre.map ZbM) live ms en b1 bg (ent.map ZbM) (Zbv body) (Zbv rest)
 | .skip=>.skip
 | .exit id=>.exit id
 | .ret=>.ret
 | .stuck=>.stuck
def ZiF (f:Z0):Z0:=⟨f.res,Zbv f.body⟩
section
variable {O:Zz} {bf:Nat->Bool}
theorem Zw9 (o:AOp) (s:Nat) (tm:Tms) (σ:Za):Zs O bf (ZbM o) s tm σ=Zs O bf o s tm σ:=rfl
theorem ZjB:∀ (ops:List AOp) (s:Nat) (tm:Tms) (σ:Za),ZA O bf (ops.map ZbM) s tm σ=ZA O bf ops s tm σ
 | [],_,_,_=>rfl
 | o::os,s,tm,σ=>by
  simp only [XA,ZA,Zw9]
  split
  ·rfl
  ·rfl
  ·rename_i tm' σ' c _ _
   rw [show (ZbM o).ins=o.ins from rfl,ZjB os]
theorem Zl0 (ops:List AOp):sitesOf (ops.map ZbM)=sitesOf ops:=by
 simp [sitesOf,ZbM,Xbx]
theorem Zho (ops:List AOp) (i:Nat):((ops.map ZbM).getD i default).ins=(ops.getD i default).ins:=by
 simp only [Xd,XN]
 cases ops[i]? <;> rfl
theorem ZEd (ops:List AOp) (b:Nat) (l:List (Nat×Nat)) (cs:List Cls):Zcz (ops.map ZbM) b l cs=Zcz ops b l cs:=by
 unfold Zcz
 congr 1
 funext p
 unfold ZbP ZbB
 rw [Zho,Zho,<-XbN,Zl0]
theorem ZxR (ops:List AOp) (b:Nat) (l:List (Nat×Nat)) (cs:List Cls):Zfn (ops.map ZbM) b l cs=Zfn ops b l cs:=by
 unfold Zfn
 congr 2
 funext p
 unfold ZbP ZbB
 rw [Zho,Zho,<-XbN,Zl0]
theorem ZIB (ops:List AOp) (chk:Option (List (Nat×Nat))) (live:List Nat) (tm:Tms) (σ:Za):ZbV O bf (ops.map ZbM) chk live tm σ=ZbV O bf ops chk live tm σ:=by
 unfold ZbV
 rw [ZjB,Zl0]
 cases ZA O bf ops σ.length tm (σ++Xy (sitesOf ops) .free) with
 | none=>rfl
 | some q =>
  obtain ⟨tm',σ',cs,p⟩:=q
  cases p with
  | some x =>
   cases chk with
   | none=>rfl
   | some l=>simp only [Zc8,ZxR]
  | none =>
   cases chk with
   | none=>rfl
   | some l=>simp only [Zc8,ZEd]
theorem ZnZ (ops:List AOp) (tm:Tms) (σ:Za):Zbo bf (ops.map ZbM) tm σ=Zbo bf ops tm σ:=by
 unfold Zbo;rw [ZjB]
section
variable {m:Nat} {live:List Nat} {ms en b1:Nat} {bg:Bool} {ent:List AOp} {run fin:Nat->Tms->Za->Option (Zy×Tms×Za)}
theorem Zoq:Za1 bf ms en b1 bg (ent.map ZbM) run=Za1 bf ms en b1 bg ent run:=by
 funext t B kv tm σ
 unfold Za1
 rw [ZnZ]
theorem ZpS (es:List (AVal×AVal)):∀ (l:List (AVal×AVal)) (tm:Tms) (σ:Za),ZaB bf m live ms en b1 bg (ent.map ZbM) run es l tm σ=ZaB bf m live ms en b1 bg ent run es l tm σ
 | [],_,_=>rfl
 | kv::l,tm,σ=>by
  simp only [ZaB,Zoq]
  split
  ·split
   ·split
    ·exact ZpS es l _ _
    ·rfl
   ·rfl
  ·rfl
theorem Zux (tm:Tms) (σ:Za):ZbK bf m live ms en b1 bg (ent.map ZbM) run fin tm σ=ZbK bf m live ms en b1 bg ent run fin tm σ:=by
 have h:ZaZ bf m live ms en b1 bg (ent.map ZbM) run fin=ZaZ bf m live ms en b1 bg ent run fin:=by
  funext es l tm σ
  unfold ZaZ
  rw [ZpS]
 have h2:Zfg bf m live ms en b1 bg (ent.map ZbM) run fin=Zfg bf m live ms en b1 bg ent run fin:=by
  funext es tm σ
  unfold Zfg
  rw [h]
 unfold ZbK
 rw [h2,Zoq]
end
theorem ZdQ (n:Nat):∀ (c:Zc) (m:Nat),Zx O bf m n (Zbv c)=Zx O bf m n c
 | .region ops chk live,m=>by funext tm σ;simp only [Zbv,Zx,ZIB]
 | .seq a b,m=>by funext tm σ;simp only [Zbv,Zx,ZdQ n a,ZdQ n b]
 | .cond c a b,m=>by funext tm σ;simp only [Zbv,Zx,ZdQ n a,ZdQ n b]
 | .block id c,m=>by funext tm σ;simp only [Zbv,Zx,ZdQ n c]
 | .loop live c,m=>by funext tm σ;simp only [Zbv,Zx,ZdQ n c]
 | .range pre live ms en b1 bg ent body rest,m=>by funext tm σ;simp only [Zbv,Zx,ZnZ,Zux,ZdQ n body,ZdQ n rest]
 | .skip,m=>by funext tm σ;simp only [Zbv]
 | .exit id,m=>by funext tm σ;simp only [Zbv]
 | .ret,m=>by funext tm σ;simp only [Zbv]
 | .stuck,m=>by funext tm σ;simp only [Zbv]
end
theorem Znx (fs:Nat->Option Z0) (prim:ZcZ) (bf:Nat->Bool):∀ n,ZW (fun f=>(fs f).map ZiF) prim bf n=ZW fs prim bf n
 | 0=>rfl
 | n+1=>by
  funext f args σ
  simp only [ZW,Znx fs prim bf n]
  cases prim f with
  | some g=>rfl
  | none =>
   cases fs f with
   | none=>rfl
   | some fn =>
    simp only [XQ,ZiF,ZdQ]
    rfl
theorem ZFQ (fs:Nat->Option Z0) (prim:ZcZ) (bf:Nat->Bool):EV (fun f=>(fs f).map ZiF) prim bf=EV fs prim bf:=by
 funext f args σ
 apply ZdZ
 intro r
 rw [Zbx,Zbx]
 simp only [Znx]
end
end
section
open Go.RowKit
def ZjH (args:List AVal) (σ:Za):Option (AVal×Za):=match args with
 | [.str l]=>some (.bool (Lib.validD l),σ)
 | _=>none
def ZiE (args:List AVal) (σ:Za):Option (AVal×Za):=match args with
 | [.str l,.int .u8 c]=>some (.int .i64 (Lib.indexByte l c.toNat.toUInt8),σ)
 | _=>none
def ZlQ (args:List AVal) (σ:Za):Option (AVal×Za):=match args with
 | [.str l,.str [c]]=>some (.int .i64 (Lib.countByte l c),σ)
 | _=>none
section
variable {P:Program} {base:Nat->Prop} {w0 w w':World} {I0 I:Imm} {β:Bmap} {σ:Za}
theorem ZmB {f:Nat} (hf:∃ fn,P.funcs[f]?=some fn/\fn.body.isSome=true/\(fn.name == "runtime.NumGoroutine")=false) {args:List AVal} {r:AVal} {u:Value} (hn:∀ x,r≠.pan x) (hr:∀ I β,VR I β r u)
  (h:∀ base w0 I0 I β w (vs:Array Value),Rel base w0 I0 I β σ w->VRs I β args vs.toList->Calls P f vs w (fun e w'=>e=.returned u/\Below w.heap.size w w')) :
  (∃ fn,P.funcs[f]?=some fn/\fn.body.isSome=true/\(fn.name == "runtime.NumGoroutine")=false) /\
  ∀ base w0 I0 I β w (vs:Array Value),KLt base w0->Rel base w0 I0 I β σ w->VRs I β args vs.toList ->
   Calls P f vs w (fun e w'=>∃ u,Ends r e u/\Zbu σ.length base w0 I0 I β r σ u w'):=by
 refine ⟨hf,fun base w0 I0 I β w vs hb R hv=>(h base w0 I0 I β w vs R hv).mono ?_⟩
 rintro e w' ⟨rfl,hB⟩
 have hbw:=R.base_le hb
 refine ⟨u,?_,I,β,Imm.le.refl I,KeptE.refl _ β,R.stay (Imm.le.refl I) ⟨hB.os,hB.tape,hB.output,hB.size,fun k hk=>hB.block k (hbw k hk)⟩ (fun _ _ _=>rfl) ?_ ?_,by rw [Ze5 hn];exact hr I β⟩
 ·cases r <;> first | rfl | exact absurd rfl (hn _)
 ·intro b o x hx
  have h1:=R.imm b o x hx
  have hlt:=Zcu h1
  rw [<-h1]
  simp only [World.cell?,hB.block b hlt]
 ·intro t x b hx hb'
  exact ⟨hB.block b ((R.blk t x hx).owns_lt hb'),(R.own t x b hx hb').2⟩
theorem Zrt {f:Nat} (hf:∃ fn,P.funcs[f]?=some fn/\fn.body.isSome=true/\(fn.name == "runtime.NumGoroutine")=false)
  (hc:∀ (s:ByteArray) (c:Int) (w:World),Calls P f #[.string s,.int .u8 c] w fun e w'=>e=.returned (.int .i64 (Lib.indexByte s.data.toList c.toNat.toUInt8))/\w'=w) {args:List AVal} {σ σ':Za} {r:AVal} (h:ZiE args σ=some (r,σ')) :
  (∃ fn,P.funcs[f]?=some fn/\fn.body.isSome=true/\(fn.name == "runtime.NumGoroutine")=false) /\
  ∀ base w0 I0 I β w (vs:Array Value),KLt base w0->Rel base w0 I0 I β σ w->VRs I β args vs.toList ->
   Calls P f vs w (fun e w'=>∃ u,Ends r e u/\Zbu σ.length base w0 I0 I β r σ' u w'):=by
 unfold ZiE at h
 split at h
 case h_2=>cases h
 rename_i l c
 simp only [Xa,Xb] at h
 obtain ⟨rfl,rfl⟩:=h
 refine ZmB hf (u:=.int .i64 (Lib.indexByte l c.toNat.toUInt8)) (by simp) (fun _ _=>by simp only [VR]) ?_
 intro base w0 I0 I β w vs R hv
 obtain ⟨vs⟩:=vs
 simp only [VRs,VR] at hv
 obtain ⟨v1,r1,e1,⟨rfl,_⟩,v2,r2,rfl,rfl,rfl⟩:=hv
 subst e1
 refine (hc ⟨l.toArray⟩ c w).mono ?_
 rintro e w' ⟨rfl,rfl⟩
 exact ⟨by simp,Below.refl _ _⟩
theorem ZsP {f:Nat} (hf:∃ fn,P.funcs[f]?=some fn/\fn.body.isSome=true/\(fn.name == "runtime.NumGoroutine")=false)
  (hc:∀ (s:ByteArray) (c:UInt8) (w:World),Calls P f #[.string s,.string ⟨#[c]⟩] w fun e w'=>e=.returned (.int .i64 (Lib.countByte s.data.toList c))/\w'=w) {args:List AVal} {σ σ':Za} {r:AVal} (h:ZlQ args σ=some (r,σ')) :
  (∃ fn,P.funcs[f]?=some fn/\fn.body.isSome=true/\(fn.name == "runtime.NumGoroutine")=false) /\
  ∀ base w0 I0 I β w (vs:Array Value),KLt base w0->Rel base w0 I0 I β σ w->VRs I β args vs.toList ->
   Calls P f vs w (fun e w'=>∃ u,Ends r e u/\Zbu σ.length base w0 I0 I β r σ' u w'):=by
 unfold ZlQ at h
 split at h
 case h_2=>cases h
 rename_i l c
 simp only [Xa,Xb] at h
 obtain ⟨rfl,rfl⟩:=h
 refine ZmB hf (u:=.int .i64 (Lib.countByte l c)) (by simp) (fun _ _=>by simp only [VR]) ?_
 intro base w0 I0 I β w vs R hv
 obtain ⟨vs⟩:=vs
 simp only [VRs,VR] at hv
 obtain ⟨v1,r1,e1,⟨rfl,_⟩,v2,r2,rfl,⟨rfl,_⟩,rfl⟩:=hv
 subst e1
 refine (hc ⟨l.toArray⟩ c w).mono ?_
 rintro e w' ⟨rfl,rfl⟩
 exact ⟨by simp,Below.refl _ _⟩
theorem ZB1 (R:Rel base w0 I0 I β σ w):Lib.Utf8Tabs 0 1 w:=by
 refine ⟨fun c hc=>R.imm _ _ _ (R.glob _ _ _ (by simp [Gl,hc])),fun i hi=>⟨R.imm _ _ _ (R.glob _ _ _ ?_),R.imm _ _ _ (R.glob _ _ _ ?_)⟩⟩
 ·have h1:2*i < 32:=by omega
  have h2:2*i % 2=0:=by omega
  have h3:2*i / 2=i:=by omega
  simp [Gl,h1,h3]
 ·have h1:2*i+1 < 32:=by omega
  have h2:(2*i+1) % 2=1:=by omega
  have h3:(2*i+1) / 2=i:=by omega
  simp [Gl,h1,h2,h3]
theorem ZEh {f:Nat} (hf:∃ fn,P.funcs[f]?=some fn/\fn.body.isSome=true/\(fn.name == "runtime.NumGoroutine")=false)
  (hc:∀ (s:ByteArray) (w:World),s.size<=9223372036854775807->Lib.Utf8Tabs 0 1 w->Calls P f #[.string s] w fun e w'=>e=.returned (.bool (Lib.validD s.data.toList))/\Below w.heap.size w w') {args:List AVal} {σ σ':Za} {r:AVal} (h:ZjH args σ=some (r,σ')) :
  (∃ fn,P.funcs[f]?=some fn/\fn.body.isSome=true/\(fn.name == "runtime.NumGoroutine")=false) /\
  ∀ base w0 I0 I β w (vs:Array Value),KLt base w0->Rel base w0 I0 I β σ w->VRs I β args vs.toList ->
   Calls P f vs w (fun e w'=>∃ u,Ends r e u/\Zbu σ.length base w0 I0 I β r σ' u w'):=by
 unfold ZjH at h
 split at h
 case h_2=>cases h
 rename_i l
 simp only [Xa,Xb] at h
 obtain ⟨rfl,rfl⟩:=h
 refine ZmB hf (u:=.bool (Lib.validD l)) (by simp) (fun _ _=>by simp only [VR]) ?_
 intro base w0 I0 I β w vs R hv
 obtain ⟨vs⟩:=vs
 simp only [VRs,VR] at hv
 obtain ⟨v1,r1,e1,⟨rfl,hl⟩,rfl⟩:=hv
 subst e1
 refine (hc ⟨l.toArray⟩ w (by simpa [WP] using hl) (ZB1 R)).mono ?_
 rintro e w' ⟨rfl,hB⟩
 exact ⟨by simp,hB⟩
end
end
section
open Go.RowKit Go.Sort
def ZbF {α:Type} (g:AVal->Option α):List AVal->Option (List α)
 | []=>some []
 | x::r=>match g x with
  | some a=>(ZbF g r).map (a::·)
  | none=>none
section
variable {P:Program} {base:Nat->Prop} {w0 w w':World} {I0 I:Imm} {β:Bmap} {σ:Za}
theorem Rel.putAt (R:Rel base w0 I0 I β σ w) (hbl:KLt base w) {t b:Nat} {x x':Zg} (ht:σ[t]?=some x) (hx:Zf w β t x b) (hx':∀ b',Zf w' β t x' b'->b'=b) (hg:Zb x'=Zb x)
  (hos:w'.os=w.os) (hta:w'.tape=w.tape) (hou:w'.output=w.output) (hs:w.heap.size<=w'.heap.size) (hh:∀ k,k≠b->k < w.heap.size->w'.heap[k]?=w.heap[k]?) (hblk:BR I β w' t x') (hnf:x'≠.free:=by simp) (hns:∀ b',¬ZZ β t x' b':=by intro b h;cases h) :
  Rel base w0 I0 I β (σ.set t x') w':=by
 have hsl:t < σ.length:=(Xc.1 ht).1
 have ho:=R.own t x b ht hx
 refine R.upd (Imm.le.refl I) (Bmap.le.refl β) ⟨hos,hta,hou,hs,fun k hk=>hh k (by rintro rfl;exact ho.1 hk) (hbl k hk)⟩ (fun _ _ _=>rfl) ?_ t x' rfl hsl (fun _ _ _=>rfl) ?_ hblk ?_ ?_ ?_ (fun b h=>absurd h (hns b))
 ·intro b' o u h
  have hne:b'≠b:=by rintro rfl;rw [ho.2 o] at h;cases h
  have h1:=R.imm b' o u h
  have hlt:=Zcu h1
  rw [<-h1]
  simp only [World.cell?,hh b' hne hlt]
 ·intro t' y b' hne hy hb'
  have hbb:b'≠b:=by rintro rfl;exact hne (R.apart t' y t x b' hy ht hb' hx)
  exact ⟨hh b' hbb ((R.blk t' y hy).owns_lt hb'),(R.own t' y b' hy hb').2,fun e=>hbb (hx' _ e)⟩
 ·intro b' e
  obtain rfl:=hx' _ e
  exact ho
 ·intro g hlt
  exact R.gen t x g ht (by rw [<-hg];exact hlt)
 ·rintro rfl
  exact hnf rfl
theorem Znp {α:Type} {g:AVal->Option α}:∀ {xs:List AVal} {zs:List α},ZbF g xs=some zs->zs.length=xs.length
 | [],zs,h=>by simp only [ZbF,Xa] at h;subst h;rfl
 | x::xs,zs,h=>by
  simp only [ZbF] at h
  split at h
  ·simp only [Xi] at h
   obtain ⟨zs',h,rfl⟩:=h
   simp [Znp h]
  ·cases h
end
end
section
open Go.RowKit Go.Sort
def leC {κ:Type} (cf:κ->κ->Int) (x y:κ):Bool:=!decide (cf y x < 0)
def ZeR {κ:Type} (le:κ->κ->Bool):List κ->List κ
 | []=>[]
 | [a]=>[a]
 | l=>l.mergeSort le
theorem ZdR {κ:Type} (le:κ->κ->Bool):∀ l:List κ,ZeR le l=l.mergeSort le
 | []=>by simp [ZeR]
 | [a]=>by simp [ZeR]
 | _::_::_=>rfl
def Zde {κ:Type} [DecidableEq κ] (cf:κ->κ->Int) (xs:List AVal) (ks:List κ):List AVal:=(ZeR (leC cf) ks).map fun a=>((ks.zip xs).lookup a).getD .nilp
def Zdm {κ:Type} [DecidableEq κ] (k f:Nat) (key:AVal->Option κ) (cf:κ->κ->Int) (args:List AVal) (σ:Za):Option (AVal×Za):=match args,σ with
 | [.sl 0 0 0 n,.fn f' []],[.row 0 k' xs]=>match ZbF key xs with
  | some ks=>if n=xs.length/\n < 4611686018427387904/\k'=k/\f'=f/\ks.Nodup then some (.tup [],[.row 0 k (Zde cf xs ks)]) else none
  | none=>none
 | [.lst b [],.fn f' []],[]=>some (.tup [],[])
 | _,_=>none
section
variable {P:Program} {base:Nat->Prop} {w0 w w':World} {I0 I:Imm} {β:Bmap} {σ:Za}
theorem ZpK {k:Nat}:∀ {xs:List AVal} {vs:List Value},(∀ x ∈ xs,x.cells.length=k)->VRs I β (xs.flatMap AVal.cells) vs->∃ VS:List (List Value),vs=VS.flatten/\VS.length=xs.length/\(∀ l ∈ VS,l.length=k)/\∀ (i:Nat) (x:AVal),xs[i]?=some x->∃ l,VS[i]?=some l/\VRs I β x.cells l
 | [],vs,_,h=>by
  simp only [Wp,VRs] at h
  subst h
  exact ⟨[],rfl,rfl,by simp,by simp⟩
 | x::xs,vs,hk,h=>by
  rw [XG] at h
  have hl:=ZQ h
  have h1:=Zdg h x.cells.length
  have h2:=Zds h x.cells.length
  rw [List.take_left] at h1
  rw [List.drop_left] at h2
  obtain ⟨VS,e1,e2,e3,e4⟩:=ZpK (fun y hy=>hk y (by simp [hy])) h2
  refine ⟨vs.take x.cells.length::VS,by rw [Xby,<-e1,Xbc],by simp [e2],?_,?_⟩
  ·intro l hl'
   rcases Xv.1 hl' with rfl | hl'
   ·rw [<-ZQ h1];exact hk x (by simp)
   ·exact e3 l hl'
  ·intro i y hy
   cases i with
   | zero=>simp only [XB,Xa] at hy;subst hy;exact ⟨_,rfl,h1⟩
   | succ i=>simp only [XP] at hy ⊢;exact e4 i y hy
theorem Zf3 {κ β':Type} [DecidableEq κ]:∀ {ks:List κ} {ys:List β'} {i:Nat} {a:κ} {y:β'},ks.Nodup->ks[i]?=some a->ys[i]?=some y->(ks.zip ys).lookup a=some y
 | [],ys,i,a,y,_,h,_=>by simp at h
 | b::ks,[],i,a,y,_,_,h=>by simp at h
 | b::ks,z::ys,0,a,y,_,h,h'=>by
  simp only [XB,Xa] at h h'
  subst h h'
  simp []
 | b::ks,z::ys,i+1,a,y,hn,h,h'=>by
  simp only [XP] at h h'
  obtain ⟨n1,n2⟩:=XV.1 hn
  have hne:a≠b:=by rintro rfl;exact n1 (Xn h)
  rw [We,XaU]
  have : (a == b)=false:=by simpa using hne
  rw [this]
  exact Zf3 n2 h h'
theorem ZqC {k:Nat}:∀ {L:List (List Value)} {i c:Nat},(∀ l ∈ L,l.length=k)->c < k->(L.flatten)[i*k+c]?=(L[i]?).bind (·[c]?)
 | [],i,c,_,_=>by simp
 | l::L,0,c,h,hc=>by
  have:=h l (by simp)
  rw [Xbs,Xw,Xby,List.getElem?_append_left (by omega)]
  rfl
 | l::L,i+1,c,h,hc=>by
  have hl:=h l (by simp)
  rw [Xby,List.getElem?_append_right (by rw [hl,XbD];omega)]
  have : (i+1)*k+c - l.length=i*k+c:=by rw [hl,XbD];omega
  rw [this,ZqC (fun m hm=>h m (by simp [hm])) hc]
  rfl
theorem Znw {α:Type} [Inhabited α] {enc:α->List Value} {k:Nat} (hk:∀ x,(enc x).length=k) (hk0:0 < k) (d:List α):(flatK enc k d.toArray).toList=d.flatMap enc:=by
 have hL:∀ l ∈ d.map enc,l.length=k:=fun l hl=>by obtain ⟨a,_,rfl⟩:=Xq.1 hl;exact hk a
 apply Wg
 intro t
 rw [List.flatMap_def]
 have e:t=t / k*k+t % k:=by rw [Nat.mul_comm];exact (Nat.div_add_mod t k).symm
 have hm:=Nat.mod_lt t hk0
 have h2:((d.map enc).flatten)[t]?=((d.map enc)[t / k]?).bind (·[t % k]?):=by
  have:=ZqC (i:=t / k) (c:=t % k) hL hm
  rwa [<-e] at this
 rw [h2]
 by_cases ht:t < d.length*k
 ·have hi:t / k < d.length:=Nat.div_lt_of_lt_mul (by rwa [Nat.mul_comm] at ht)
  have hz:(flatK enc k d.toArray).size=d.length*k:=by rw [size_flatK];rfl
  have hg:=get_flatK enc k d.toArray t (by simpa using ht)
  rw [WL,Xap (by rw [hz];exact ht)]
  rw [getElem!_pos _ t (by rw [hz];exact ht)] at hg
  rw [hg,XN,Xm hi]
  have e2:(d.toArray[t / k]!)=d[t / k]:=by simp [hi]
  rw [e2]
  simp only [XQ,XH]
  have hl:=hk d[t / k]
  rw [getElem!_pos _ _ (by omega),Xm (by omega)]
 ·have hd:d.length<=t / k:=(Nat.le_div_iff_mul_le hk0).2 (by omega)
  rw [XO (by rw [XR,size_flatK];simpa using ht),XO (by simpa using hd)]
  rfl
theorem ZoQ {α:Type} {g:AVal->Option α}:∀ {xs:List AVal} {zs:List α} {i:Nat} {x:AVal},ZbF g xs=some zs->xs[i]?=some x->∃ a,zs[i]?=some a/\g x=some a
 | [],zs,i,x,_,hx=>by simp at hx
 | y::xs,zs,i,x,h,hx=>by
  simp only [ZbF] at h
  split at h
  ·rename_i a ha
   simp only [Xi] at h
   obtain ⟨zs',h,rfl⟩:=h
   cases i with
   | zero=>simp only [XB,Xa] at hx;subst hx;exact ⟨a,rfl,ha⟩
   | succ i=>simp only [XP] at hx ⊢;exact ZoQ h hx
  ·cases h
theorem ZvT {κ:Type} [DecidableEq κ] [Inhabited κ] {k g f:Nat} {key:AVal->Option κ} {cf:κ->κ->Int} {pre:κ->List Value} {m:Nat} (hf:∃ fn,P.funcs[f]?=some fn/\fn.body.isSome=true/\(fn.name == "runtime.NumGoroutine")=false)
  (hm:m<=k) (hk0:0 < k) (hg0:g < 1000000) (hpre:∀ a,(pre a).length=m/\∀ v ∈ pre a,v.oneCell'=true)
  (hkey:∀ {I:Imm} {β:Bmap} (x:AVal) (a:κ) (l:List Value),key x=some a->VRs I β x.cells l->∃ t,l=pre a++t)
  (hcmp:∀ (a b:κ) (us vs:List Value) (W:World),m+us.length=k->m+vs.length=k->Calls P g #[.agg (pre a++us).toArray,.agg (pre b++vs).toArray] W fun e w'=>e=.returned (.int .i64 (cf a b))/\∃ q os',w'=grow (W.drewN q) os')
  (hsort:∀ (enc:κ->List Value),(∀ x,(enc x).length=k)->(∀ x,∀ v ∈ enc x,v.oneCell'=true)->∀ (blk off cap:Nat) (d:Array κ) (w:World),CmpLays P g #[] enc k cf blk off d.size w->HoldsK enc k w blk off d->blk < w.heap.size->d.size < 4611686018427387904 ->
   Calls P f #[.slice (some ⟨blk,off,none⟩) d.size cap,.func (.func g) #[] #[]] w fun e w'=>e=.returned (.tuple #[])/\∃ n os,w'=sortWorldK enc k w blk off n (d.toList.mergeSort (leC cf)).toArray os)
  (hnone:∀ (p:Option Addr) (cap:Nat) (fv:Value) (w:World),Calls P f #[.slice p 0 cap,fv] w fun e w'=>e=.returned (.tuple #[])/\w'=w)
  {args:List AVal} {σ σ':Za} {r:AVal} (hp:Zdm k g key cf args σ=some (r,σ')) :
  (∃ fn,P.funcs[f]?=some fn/\fn.body.isSome=true/\(fn.name == "runtime.NumGoroutine")=false) /\
  ∀ base w0 I0 I β w (vs:Array Value),KLt base w0->Rel base w0 I0 I β σ w->VRs I β args vs.toList ->
   Calls P f vs w (fun e w'=>∃ u,Ends r e u/\Zbu σ.length base w0 I0 I β r σ' u w'):=by
 refine ⟨hf,fun base w0 I0 I β w vs hb R hv=>?_⟩
 unfold Zdm at hp
 obtain ⟨vs⟩:=vs
 split at hp
 ·rename_i n f' k' xs
  split at hp
  case h_2=>cases hp
  rename_i ks hz
  split at hp
  case isFalse=>cases hp
  rename_i hn
  obtain ⟨rfl,hn,rfl,rfl,hnd⟩:=hn
  simp only [Xa,Xb] at hp
  obtain ⟨rfl,rfl⟩:=hp
  simp only [VRs] at hv
  obtain ⟨v,vs',rfl,hv,fv,vs'',rfl,hfv,rfl⟩:=hv
  have hfv':fv=.func (.func f') #[] #[]:=by
   simp only [VR,if_pos hg0,VRs] at hfv
   obtain ⟨fs,us,rfl,rfl,h⟩:=hfv
   have : us=#[]:=by
    have:=congrArg List.length h
    simp at this
    exact this
   rw [this]
  subst hfv'
  have hzl:=Znp hz
  have hB:=R.blk 0 _ rfl
  obtain ⟨bi,e1,e2,e3,e4,e5,e6,e7,e8⟩:=hB
  rw [ZbR] at hv
  obtain ⟨bi',f1,f2,f3,f4⟩:=hv
  rw [e1] at f1
  injection f1 with f1
  subst f1
  rcases f4 with ⟨b,hb',rfl⟩ | ⟨hbn,hc0,A,rfl⟩
  ·rcases e8 with ⟨e8,_⟩ | ⟨b2,us,ty,q1,q2,q3,q4⟩
   ·rw [e8] at hb';cases hb'
   rw [hb'] at q1;injection q1 with q1;subst q1
   obtain ⟨VS,v1,v2,v3,v4⟩:=ZpK e7 q4
   let enc:κ->List Value:=fun a=>((ks.zip VS).lookup a).getD (pre a++Xy (k' - m) (.int .i64 0))
   have hmem:∀ a l,(ks.zip VS).lookup a=some l->l ∈ VS/\∃ (i:Nat) (x:AVal),xs[i]?=some x/\ks[i]?=some a/\VS[i]?=some l:=by
    have key:∀ (ks:List κ) (VS:List (List Value)) a l,(ks.zip VS).lookup a=some l->∃ i:Nat,ks[i]?=some a/\VS[i]?=some l:=by
     intro ks
     induction ks with
     | nil=>intro VS a l h;simp at h
     | cons b ks ih =>
      intro VS a l h
      cases VS with
      | nil=>simp at h
      | cons y VS =>
       rw [We,XaU] at h
       by_cases e:a=b
       ·subst e;simp only [beq_self_eq_true,Xa] at h;subst h;exact ⟨0,rfl,rfl⟩
       ·have : (a == b)=false:=by simpa using e
        rw [this] at h
        obtain ⟨i,h1,h2⟩:=ih VS a l h
        exact ⟨i+1,by simpa using h1,by simpa using h2⟩
    intro a l h
    obtain ⟨i,h1,h2⟩:=key ks VS a l h
    have hi:i < xs.length:=by have:=(Xc.1 h2).1;omega
    exact ⟨Xn h2,i,xs[i],Xm hi,h1,h2⟩
   have henc:∀ a,(∃ (i:Nat) (x:AVal),xs[i]?=some x/\ks[i]?=some a/\VS[i]?=some (enc a)/\(ks.zip VS).lookup a=some (enc a))\/enc a=pre a++Xy (k' - m) (.int .i64 0):=by
    intro a
    cases h:(ks.zip VS).lookup a with
    | none=>exact Xp (by simp only [enc,h];rfl)
    | some l =>
     obtain ⟨_,i,x,h1,h2,h3⟩:=hmem a l h
     refine Xk ⟨i,x,h1,h2,?_,?_⟩ <;> simp only [enc,h,Wy] <;> assumption
   have hpr:∀ a,∃ t,enc a=pre a++t:=by
    intro a
    rcases henc a with ⟨i,x,h1,h2,h3,_⟩ | h
    ·obtain ⟨a',k1,k2⟩:=ZoQ hz h1
     rw [h2] at k1;injection k1 with k1;subst k1
     obtain ⟨l,l1,l2⟩:=v4 i x h1
     rw [h3] at l1;injection l1 with l1;subst l1
     exact hkey x _ _ k2 l2
    ·exact ⟨_,h⟩
   have hk:∀ a,(enc a).length=k':=by
    intro a
    rcases henc a with ⟨i,x,h1,h2,h3,_⟩ | h
    ·exact v3 _ (Xn h3)
    ·rw [h,Xx,(hpre a).1,List.length_replicate];omega
   have h1c:∀ a,∀ v ∈ enc a,v.oneCell'=true:=by
    intro a v hv
    rcases henc a with ⟨i,x,h1,h2,h3,_⟩ | h
    ·obtain ⟨l,l1,l2⟩:=v4 i x h1
     rw [h3] at l1;injection l1 with l1;subst l1
     refine Zfq (fun c hc=>?_) l2 v hv
     have:=(ZbN.1 e6) x (Xn h1)
     exact Zjb ((Zb7.1 this) c hc)
    ·rw [h] at hv
     rcases Xl.1 hv with hv | hv
     ·exact (hpre a).2 v hv
     ·rw [List.mem_replicate] at hv;rw [hv.2];rfl
   have hall:ks.map enc=VS:=by
    apply Wg
    intro i
    rw [XN]
    by_cases hi:i < xs.length
    ·obtain ⟨a,ha⟩:∃ a,ks[i]?=some a:=⟨_,Xm (by omega)⟩
     obtain ⟨l,hl⟩:∃ l,VS[i]?=some l:=⟨_,Xm (by omega)⟩
     rw [ha,hl,XQ]
     congr 1
     simp only [enc,Zf3 hnd ha hl,Wy]
    ·rw [XO (by omega),XO (by omega)];rfl
   have hflat:(flatK enc k' ks.toArray).toList=us.toList.take (xs.length*k'):=by
    rw [Znw hk hk0,List.flatMap_def,hall,<-v1]
   have hH:HoldsK enc k' w b 0 ks.toArray:=by
    intro j hj
    refine ⟨?_,by simp [World.frozen?,q2]⟩
    have hj':j < ks.length*k':=by simpa using hj
    rw [hzl] at hj'
    have h1:(us.toList.take (xs.length*k'))[j]?=(flatK enc k' ks.toArray).toList[j]?:=by rw [hflat]
    rw [List.getElem?_take_of_lt hj'] at h1
    simp only [World.cell?,q2,Xw]
    simp only [XaG,Xf,if_false]
    rw [<-WL,h1,WL,Xap hj]
    have e:=getElem!_pos (flatK enc k' ks.toArray) j hj
    rw [e];rfl
   have hlt:b < w.heap.size:=(Xu.1 q2).1
   have hcl:CmpLays P f' #[] enc k' cf b 0 ks.toArray.size w:=by
    intro q os dk _ x y
    obtain ⟨t1,ht1⟩:=hpr x
    obtain ⟨t2,ht2⟩:=hpr y
    have l1:=hk x
    have l2:=hk y
    rw [ht1,Xx,(hpre x).1] at l1
    rw [ht2,Xx,(hpre y).1] at l2
    rw [ht1,ht2]
    simpa using hcmp x y t1 t2 _ l1 l2
   have hS:=hsort enc hk h1c b 0 bi.cap ks.toArray w hcl hH hlt (by simp;omega)
   rw [show ks.toArray.size=xs.length by simp [hzl]] at hS
   refine hS.mono ?_
   rintro e w' ⟨rfl,nn,os,rfl⟩
   simp only [] at *
   have hml:(ks.mergeSort (leC cf)).length=ks.length:=List.length_mergeSort ks
   unfold sortWorldK putRowK
   have hsz:(flatK enc k' (ks.mergeSort (leC cf)).toArray).size=xs.length*k':=by rw [size_flatK];simp [hml,hzl]
   have hcap:xs.length*k'<=us.size:=by rw [q3];exact Nat.mul_le_mul_right k' e5
   generalize hfl:flatK enc k' (ks.mergeSort (leC cf)).toArray=FL at *
   have hfll:FL.toList=(ks.mergeSort (leC cf)).flatMap enc:=by rw [<-hfl,Znw hk hk0]
   have hheap:(grow (putRow id (Sort.ahead w nn) b 0 FL) os).heap[b]?=some (.cells (putCells id 0 FL us) ty (0,0)):=by
    rw [heap_grow_old _ _ (by simpa using hlt)]
    simp [putRow,mapBlock,Sort.ahead,Xai,q2,onCells]
   have htake:(putCells id 0 FL us).toList.take (xs.length*k')=(ks.mergeSort (leC cf)).flatMap enc:=by
    rw [<-hfll]
    apply Wg
    intro j
    by_cases hj:j < xs.length*k'
    ·rw [List.getElem?_take_of_lt hj,WL,WL]
     have hj2:j < us.size:=by omega
     have hj3:j < FL.size:=by omega
     simp [putCells,hj2,hj3]
    ·rw [List.getElem?_take_eq_none (by omega),XO (by simp;omega)]
   have hperm:∀ a,a ∈ ks.mergeSort (leC cf)->a ∈ ks:=fun a ha=>(XaX ks _).mem_iff.1 ha
   have hown:Zf w β 0 (.row 0 k' xs) b:=by simp [Zf,e1,hb']
   have hlk:∀ a ∈ ks,∃ x ∈ xs,((ks.zip xs).lookup a).getD .nilp=x/\VRs I β x.cells (enc a):=by
    intro a ha
    obtain ⟨i,hi⟩:=WK.1 ha
    have hix:i < xs.length:=by have:=(Xc.1 hi).1;omega
    obtain ⟨x,hx⟩:∃ x,xs[i]?=some x:=⟨_,Xm hix⟩
    obtain ⟨l,l1,l2⟩:=v4 i x hx
    refine ⟨x,Xn hx,by rw [Zf3 hnd hi hx];rfl,?_⟩
    simp only [enc,Zf3 hnd hi l1,Wy]
    exact l2
   refine ⟨.tuple #[],rfl,I,β,Imm.le.refl I,KeptE.refl _ β,?_,by simp [Zad,VR,VRs]⟩
   have:=R.putAt (R.base_le hb) (t:=0) (b:=b) (x:=.row 0 k' xs) (x':=.row 0 k' (Zde cf xs ks)) (w':=grow (putRow id (Sort.ahead w nn) b 0 FL) os) rfl hown (by simp [Zf,e1,hb']) rfl rfl rfl rfl (by simp) (fun c hc hcl=>by
    rw [heap_grow_old _ _ (by simpa using hcl)]
    have : b≠c:=fun e=>hc e.symm
    simp [putRow,mapBlock,Sort.ahead,Xai,this])
    ⟨bi,e1,e2,hk0,e4,by simp only [Zde,ZdR,Wj,hml];omega,?_,?_,Xp ⟨b,_,ty,hb',hheap,by simp [putCells];omega,?_⟩⟩
   ·exact this
   ·rw [ZbN]
    intro x hx
    obtain ⟨a,ha,rfl⟩:=Xq.1 hx
    rw [ZdR] at ha
    obtain ⟨y,hy,e,_⟩:=hlk a (hperm a ha)
    rw [e]
    exact (ZbN.1 e6) y hy
   ·intro x hx
    obtain ⟨a,ha,rfl⟩:=Xq.1 hx
    rw [ZdR] at ha
    obtain ⟨y,hy,e,_⟩:=hlk a (hperm a ha)
    rw [e]
    exact e7 y hy
   ·have e9:(Zde cf xs ks).length=xs.length:=by simp only [Zde,ZdR,Wj,hml];omega
    rw [e9,htake]
    unfold Zde
    rw [ZdR]
    have key:∀ l:List κ,(∀ a ∈ l,a ∈ ks)->VRs I β ((l.map fun a=>((ks.zip xs).lookup a).getD .nilp).flatMap AVal.cells) (l.flatMap enc):=by
     intro l
     induction l with
     | nil=>intro _;simp [VRs]
     | cons a l ih =>
      intro hl
      rw [XA,XG,XG]
      obtain ⟨y,hy,e,h⟩:=hlk a (hl a (by simp))
      rw [e]
      exact Zbm h (ih fun c hc=>hl c (by simp [hc]))
    exact key _ hperm
  ·have hx0:xs=[]:=XW (by omega)
   subst hx0
   simp only [ZbF,Xa] at hz
   subst hz
   refine (hnone A 0 _ w).mono ?_
   rintro e w' ⟨rfl,rfl⟩
   exact ⟨.tuple #[],rfl,I,β,Imm.le.refl I,KeptE.refl _ β,by simpa [Zde,ZeR] using R,by simp [Zad,VR,VRs]⟩
 ·simp only [Xa,Xb] at hp
  obtain ⟨rfl,rfl⟩:=hp
  simp only [VRs] at hv
  obtain ⟨v,vs',rfl,hv,fv,vs'',rfl,hfv,rfl⟩:=hv
  simp only [VR] at hv
  obtain ⟨A,cap,rfl,_⟩:=hv
  refine (hnone A cap fv w).mono ?_
  rintro e w' ⟨rfl,rfl⟩
  exact ⟨.tuple #[],rfl,I,β,Imm.le.refl I,KeptE.refl _ β,R,by simp [Zad,VR,VRs]⟩
 ·cases hp
end
end
section
open Go.RowKit Go.Sort Go.Lib
def ZbZ (a b:List UInt8):Int:=if a < b then -1 else if b < a then 1 else 0
def Zal (x y:List UInt8×List UInt8):Int:=if ZbZ x.1 y.1≠0 then ZbZ x.1 y.1 else ZbZ x.2 y.2
def lt2 (x y:List UInt8×List UInt8):Prop:=x.1 < y.1\/x.1=y.1/\x.2 < y.2
theorem Znk (a b:List UInt8):ZbZ a b < 0↔a < b:=by
 unfold ZbZ;split
 ·simp [*]
 ·split <;> simp [*]
theorem ZqT (a b:List UInt8):ZbZ a b=0↔a=b:=by
 unfold ZbZ
 constructor
 ·intro h
  split at h
  ·cases h
  ·rename_i h1
   split at h
   ·cases h
   ·rename_i h2
    exact Xbg (XaY.1 h2) (XaY.1 h1)
 ·rintro rfl
  simp [Xbu]
theorem Zdq (x y:List UInt8×List UInt8):Zal x y < 0↔lt2 x y:=by
 unfold Zal lt2
 by_cases h:ZbZ x.1 y.1=0
 ·have e:=(ZqT _ _).1 h
  rw [if_neg (by simp [h]),Znk]
  constructor
  ·exact fun h'=>Xp ⟨e,h'⟩
  ·rintro (h' | ⟨_,h'⟩)
   ·rw [e] at h';exact absurd h' (Xbu _)
   ·exact h'
 ·rw [if_pos h,Znk]
  constructor
  ·exact Xk
  ·rintro (h' | ⟨e,_⟩)
   ·exact h'
   ·exact absurd ((ZqT _ _).2 e) h
theorem Zd7 {x y z:List UInt8×List UInt8} (h:lt2 x y) (h':lt2 y z):lt2 x z:=by
 unfold lt2 at *
 rcases h with h | ⟨e,h⟩ <;> rcases h' with h' | ⟨e',h'⟩
 ·exact Xk (List.lt_trans h h')
 ·exact Xk (e' ▸ h)
 ·exact Xk (e ▸ h')
 ·exact Xp ⟨e.trans e',List.lt_trans h h'⟩
theorem Zc4 (x:List UInt8×List UInt8):¬lt2 x x:=by
 rintro (h | ⟨_,h⟩) <;> exact Xbu _ h
theorem ZdD {x y:List UInt8×List UInt8} (h:¬lt2 x y) (h':¬lt2 y x):x=y:=by
 unfold lt2 at *
 have e1:x.1=y.1:=Xbg (XaY.1 fun h2=>h' (Xk h2)) (XaY.1 fun h2=>h (Xk h2))
 have e2:x.2=y.2:=Xbg (XaY.1 fun h2=>h' (Xp ⟨e1.symm,h2⟩)) (XaY.1 fun h2=>h (Xp ⟨e1,h2⟩))
 exact Prod.ext e1 e2
instance:DecidableRel lt2:=fun x y=>by unfold lt2;infer_instance
theorem ZhD (x y:List UInt8×List UInt8):ltOf Zal x y=decide (lt2 x y):=by
 unfold ltOf
 by_cases h:lt2 x y
 ·rw [decide_eq_true ((Zdq x y).2 h),decide_eq_true h]
 ·rw [decide_eq_false (fun h'=>h ((Zdq x y).1 h')),decide_eq_false h]
theorem ZAF:SWO (ltOf Zal) where
 irrefl x:=by rw [ZhD];simpa using Zc4 x
 trans x y z h1 h2:=by
  rw [ZhD] at *
  simp only [decide_eq_true_eq] at *
  exact Zd7 h1 h2
 ntrans x y z h1 h2:=by
  rw [ZhD] at *
  simp only [decide_eq_false_iff_not] at *
  intro h
  by_cases e:lt2 y x
  ·exact h2 (by
    by_cases e2:lt2 z y
    ·exact absurd (Zd7 (Zd7 h e2) e) (Zc4 _)
    ·by_cases e3:lt2 y z
     ·exact e3
     ·have:=ZdD e2 e3;subst this;exact absurd (Zd7 h e) (Zc4 _))
  ·have:=ZdD h1 e;subst this;exact h2 h
theorem Zys (x y:List UInt8×List UInt8) (h1:ltOf Zal x y=false) (h2:ltOf Zal y x=false):x=y:=by
 rw [ZhD] at *
 simp only [decide_eq_false_iff_not] at *
 exact ZdD h1 h2
def Zcj:AVal->Option (List UInt8×List UInt8)
 | .agg (.str a::.str b::_)=>some (a,b)
 | _=>none
end
section
open Go.RowKit Go.Sort
theorem ZoM {x y:List UInt8×List UInt8} (h:lt2 x y):leC Zal x y=true:=by
 unfold leC
 have : ¬lt2 y x:=fun h'=>Zc4 _ (Zd7 h h')
 simp only [Zdq,this,decide_false,Bool.not_false]
theorem Zit {x y:List UInt8×List UInt8} (h:leC Zal x y=true):¬lt2 y x:=by
 unfold leC at h
 simpa only [Zdq,Wb,decide_eq_false_iff_not] using h
theorem ZoC (a b c:List UInt8×List UInt8) (h1:leC Zal a b=true) (h2:leC Zal b c=true):leC Zal a c=true:=by
 have h1:=Zit h1
 have h2:=Zit h2
 by_cases e:lt2 a c
 ·exact ZoM e
 ·by_cases e2:lt2 c a
  ·exfalso
   by_cases e3:lt2 a b
   ·exact h2 (Zd7 e2 e3)
   ·have:=ZdD e3 h1;subst this;exact h2 e2
  ·have:=ZdD e e2;subst this
   unfold leC;simp [Zdq,Zc4]
theorem Zn6 (a b:List UInt8×List UInt8):(leC Zal a b || leC Zal b a)=true:=by
 by_cases e:lt2 a b
 ·simp [ZoM e]
 ·have : leC Zal b a=true:=by unfold leC;simp [Zdq,e]
  simp [this]
theorem Zsl {a b:List (List UInt8×List UInt8)} (h:a.Perm b):ZeR (leC Zal) a=ZeR (leC Zal) b:=by
 rw [ZdR,ZdR]
 exact (((XaX _ _).trans h).trans (XaX _ _).symm).eq_of_pairwise (fun a b _ _ h1 h2=>ZdD (Zit h2) (Zit h1)) (Xa4 ZoC Zn6 a) (Xa4 ZoC Zn6 b)
theorem ZfE {α:Type} {g:AVal->Option α}:∀ {xs:List AVal} {ks:List α},ZbF g xs=some ks↔xs.map g=ks.map some
 | [],ks=>by
  simp only [ZbF,Xa,X9]
  constructor
  ·rintro rfl;rfl
  ·intro h;exact (List.map_eq_nil_iff.1 h.symm).symm
 | x::r,ks=>by
  simp only [ZbF,XA]
  cases hx:g x with
  | none =>
   simp only
   constructor
   ·intro h;cases h
   ·intro h;cases ks <;> simp at h
  | some a =>
   simp only [Xi]
   constructor
   ·rintro ⟨l,h,rfl⟩
    rw [ZfE.1 h];rfl
   ·intro h
    cases ks with
    | nil=>simp at h
    | cons b l =>
     simp only [XA,WD,Xa] at h
     obtain ⟨rfl,h⟩:=h
     exact ⟨l,ZfE.2 h,rfl⟩
theorem ZnC {α:Type}:∀ ks:List α,(ks.map some).filterMap id=ks
 | []=>rfl
 | a::ks=>by
  simp only [XA,Wr,id_eq]
  rw [ZnC ks]
theorem Zos {α:Type} {g:AVal->Option α} {xs ys:List AVal} {ks:List α} (hp:xs.Perm ys) (h:ZbF g xs=some ks):∃ ls,ZbF g ys=some ls/\ks.Perm ls:=by
 have h1:=ZfE.1 h
 have h2:(ys.map g).Perm (ks.map some):=by rw [<-h1];exact (hp.map g).symm
 refine ⟨(ys.map g).filterMap id,ZfE.2 ?_,?_⟩
 ·have : ∀ o ∈ ys.map g,o.isSome=true:=fun o ho=>by
   obtain ⟨a,_,rfl⟩:=Xq.1 (h2.mem_iff.1 ho)
   rfl
  generalize ys.map g=L at this
  induction L with
  | nil=>rfl
  | cons o L ih =>
   cases o with
   | none=>have:=this none (by simp);cases this
   | some a =>
    simp only [Wr,id_eq,XA]
    rw [<-ih (fun o ho=>this o (by simp [ho]))]
 ·have:=h2.filterMap id
  rw [ZnC ks] at this
  exact this.symm
def Zev (xs:List AVal):Option (List AVal):=match ZbF Zcj xs with
 | some ks=>if ks.Nodup then some (Zde Zal xs ks) else none
 | none=>none
theorem ZrC {κ:Type} [DecidableEq κ] {g:AVal->Option κ} {xs:List AVal} {ks:List κ} (h:ZbF g xs=some ks) (hn:ks.Nodup) {x:AVal} {a:κ} (hx:x ∈ xs) (ha:g x=some a):(ks.zip xs).lookup a=some x:=by
 obtain ⟨i,hi⟩:=WK.1 hx
 have h1:=ZfE.1 h
 have h2:ks[i]?=some a:=by
  have h3:(ks.map some)[i]?=some (some a):=by rw [<-h1,XN,hi,XQ,ha]
  rw [XN,Xi] at h3
  obtain ⟨b,h4,h5⟩:=h3
  injection h5 with h5
  rw [h4,h5]
 exact Zf3 hn h2 hi
theorem ZyP {xs ys:List AVal} (hp:xs.Perm ys):Zev xs=Zev ys:=by
 unfold Zev
 cases hx:ZbF Zcj xs with
 | none =>
  cases hy:ZbF Zcj ys with
  | none=>rfl
  | some ls =>
   obtain ⟨ks,h,_⟩:=Zos hp.symm hy
   rw [hx] at h;cases h
 | some ks =>
  obtain ⟨ls,hy,hkl⟩:=Zos hp hx
  rw [hy]
  simp only
  by_cases hn:ks.Nodup
  ·have hn':ls.Nodup:=hkl.nodup_iff.1 hn
   rw [if_pos hn,if_pos hn']
   congr 1
   unfold Zde
   rw [Zsl hkl]
   apply List.map_congr_left
   intro a ha
   rw [ZdR,List.mem_mergeSort] at ha
   have ha':some a ∈ ys.map Zcj:=by rw [ZfE.1 hy];exact Xq.2 ⟨a,ha,rfl⟩
   obtain ⟨y,hy1,hy2⟩:=Xq.1 ha'
   rw [ZrC hy hn' hy1 hy2,ZrC hx hn (hp.mem_iff.2 hy1) hy2]
  ·rw [if_neg hn,if_neg (fun h=>hn (hkl.nodup_iff.2 h))]
def Zpw (q:Bag):Option (List AVal):=Quot.lift Zev (fun _ _ h=>ZyP h) q
def Zfi (f:Nat) (args:List AVal) (σ:Za):Option (AVal×Za):=match args,σ with
 | [.sl 0 0 0 n,.fn f' []],[.bag 0 k' q]=>match Zpw q with
  | some L=>if n=Z3 q/\n < 4611686018427387904/\k'=3/\f'=f then some (.tup [],[.row 0 3 L]) else none
  | none=>none
 | a,s=>Zdm 3 f Zcj Zal a s
theorem ZrF {f n f' k':Nat} {xs:List AVal} {r:AVal} {σ':Za} (h:Zfi f [.sl 0 0 0 n,.fn f' []] [.bag 0 k' (Quot.mk _ xs)]=some (r,σ')):Zdm 3 f Zcj Zal [.sl 0 0 0 n,.fn f' []] [.row 0 k' xs]=some (r,σ'):=by
 simp only [Zfi] at h
 split at h
 case h_2=>cases h
 rename_i L hL
 split at h
 case isFalse=>cases h
 rename_i hc
 obtain ⟨h1,h2,rfl,rfl⟩:=hc
 have hL:Zev xs=some L:=hL
 have h1:n=xs.length:=h1
 unfold Zev at hL
 split at hL
 case h_2=>cases hL
 rename_i ks hk
 split at hL
 case isFalse=>cases hL
 rename_i hn
 injection hL with hL
 subst hL
 simp only [Zdm,hk]
 rw [if_pos ⟨h1,h2,trivial,trivial,hn⟩]
 exact h
section
variable {P:Program} {base:Nat->Prop} {w0 w:World} {I0 I:Imm} {β:Bmap}
theorem ZuD {F f:Nat}
  (hrow:∀ {args:List AVal} {σ σ':Za} {r:AVal},Zdm 3 f Zcj Zal args σ=some (r,σ') ->
   (∃ fn,P.funcs[F]?=some fn/\fn.body.isSome=true/\(fn.name == "runtime.NumGoroutine")=false) /\
   ∀ base w0 I0 I β w (vs:Array Value),KLt base w0->Rel base w0 I0 I β σ w->VRs I β args vs.toList->Calls P F vs w (fun e w'=>∃ u,Ends r e u/\Zbu σ.length base w0 I0 I β r σ' u w'))
  {args:List AVal} {σ σ':Za} {r:AVal} (hp:Zfi f args σ=some (r,σ')) :
   (∃ fn,P.funcs[F]?=some fn/\fn.body.isSome=true/\(fn.name == "runtime.NumGoroutine")=false) /\
   ∀ base w0 I0 I β w (vs:Array Value),KLt base w0->Rel base w0 I0 I β σ w->VRs I β args vs.toList->Calls P F vs w (fun e w'=>∃ u,Ends r e u/\Zbu σ.length base w0 I0 I β r σ' u w'):=by
 by_cases hb:∃ n f' k' q,args=[.sl 0 0 0 n,.fn f' []]/\σ=[.bag 0 k' q]
 ·obtain ⟨n,f',k',q,rfl,rfl⟩:=hb
  obtain ⟨xs,rfl⟩:=Quot.exists_rep q
  refine ⟨(hrow (ZrF hp)).1,fun base w0 I0 I β w vs hK R hv=>?_⟩
  obtain ⟨ys,hq,R'⟩:=R.unbag (t:=0) rfl
  rw [<-hq] at hp
  exact (hrow (ZrF hp)).2 base w0 I0 I β w vs hK R' hv
 ·have : Zdm 3 f Zcj Zal args σ=some (r,σ'):=by
   rw [<-hp]
   unfold Zfi
   split
   ·exact absurd ⟨_,_,_,_,rfl,rfl⟩ hb
   ·rfl
  exact hrow this
end
end
section
def Zjn (args:List AVal) (σ:Za):Option (AVal×Za):=match args,σ with
 | [],[]=>some (.nref 0 0 0,[.arena [([],[])]])
 | _,_=>none
section
variable {base:Nat->Prop} {w0 w:World} {I0 I:Imm} {β:Bmap}
theorem Rel.arena1 (R:Rel base w0 I0 I β [.var [.map 1,.map 2],.map [],.map []] w):∃ β',Rel base w0 I0 I β' [.arena [([],[])]] w/\∀ v,VR I β (.ref 0 0) v->VR I β' (.nref 0 0 0) v:=by
 obtain ⟨bs,k0,c0,us,ty,h0,a1,a2⟩:=R.blk 0 _ rfl
 obtain ⟨bv,k1,c1,arr,clk,h1,b1,b2,b3,b4,b5⟩:=R.blk 1 _ rfl
 obtain ⟨bn,k2,c2,arr',clk',h2,d1,d2,d3,d4,d5⟩:=R.blk 2 _ rfl
 have o0:Zf w β 0 (.var [.map 1,.map 2]) bs:=by simp [Zf,h0]
 have o1:Zf w β 1 (.map []) bv:=by simp [Zf,h1]
 have o2:Zf w β 2 (.map []) bn:=by simp [Zf,h2]
 have n01:bs≠bv:=by rintro rfl;exact absurd (R.apart 0 _ 1 _ bs rfl rfl o0 o1) (by decide)
 have n02:bs≠bn:=by rintro rfl;exact absurd (R.apart 0 _ 2 _ bs rfl rfl o0 o2) (by decide)
 have n12:bv≠bn:=by rintro rfl;exact absurd (R.apart 1 _ 2 _ bv rfl rfl o1 o2) (by decide)
 let β':Bmap:=fun t g=>if t=0 then (if g=1001 then β 0 0 else if g=1002 then β 1 0 else if g=1003 then β 2 0 else none) else none
 have e0:β' 0 1001=some ⟨some bs,k0,c0⟩:=by show (if (0:Nat)=0 then _ else _)=_;simp [h0]
 have e1:β' 0 1002=some ⟨some bv,k1,c1⟩:=by show (if (0:Nat)=0 then _ else _)=_;simp [h1]
 have e2:β' 0 1003=some ⟨some bn,k2,c2⟩:=by show (if (0:Nat)=0 then _ else _)=_;simp [h2]
 have hg:∀ g,1001<=g->g < 1001+3*1->∃ b k c,β' 0 g=some ⟨some b,k,c⟩/\((g=1001/\b=bs)\/(g=1002/\b=bv)\/(g=1003/\b=bn)):=by
  intro g g1 g2
  have : g=1001\/g=1002\/g=1003:=by omega
  rcases this with rfl | rfl | rfl
  ·exact ⟨_,_,_,e0,Xk ⟨rfl,rfl⟩⟩
  ·exact ⟨_,_,_,e1,Xp (Xk ⟨rfl,rfl⟩)⟩
  ·exact ⟨_,_,_,e2,Xp (Xp ⟨rfl,rfl⟩)⟩
 have hown:∀ b,ZaH β' 0 [([],[])] b->b=bs\/b=bv\/b=bn:=by
  rintro b ⟨g,g1,g2,h⟩
  obtain ⟨b',k,c,e,hb⟩:=hg g g1 g2
  rw [e] at h
  simp only [XH,Xa] at h
  subst h
  rcases hb with ⟨_,h⟩ | ⟨_,h⟩ | ⟨_,h⟩
  ·exact Xk h
  ·exact Xp (Xk h)
  ·exact Xp (Xp h)
 have own:∀ b,ZaH β' 0 [([],[])] b->¬base b/\∀ o,I b o=none:=by
  intro b hb
  rcases hown b hb with rfl | rfl | rfl
  ·exact R.own 0 _ _ rfl o0
  ·exact R.own 1 _ _ rfl o1
  ·exact R.own 2 _ _ rfl o2
 have lk:∀ (t:Nat) (x:Zg),[Zg.arena [([],[])]][t]?=some x->t=0/\x=.arena [([],[])]:=by
  intro t x h
  cases t with
  | zero=>simp only [XB,Xa] at h;exact ⟨rfl,h.symm⟩
  | succ t=>simp at h
 have v2:us.toList=[.map (some bv),.map (some bn)]:=by
  simp only [VRs,VR] at a2
  obtain ⟨v,vs',e,⟨b,k,c,q1,rfl⟩,v',vs'',e',⟨b',k',c',q2,rfl⟩,rfl⟩:=a2
  rw [h1] at q1
  rw [h2] at q2
  simp only [Xa,BI.mk.injEq] at q1 q2
  rw [e,e',q1.1,q2.1]
 refine ⟨β',⟨R.below,R.old,R.imm,?_,?_,?_,?_,?_,?_,R.glob,?_⟩,?_⟩
 ·intro t x h
  obtain ⟨rfl,rfl⟩:=lk t x h
  refine ⟨fun i nd hi=>?_,fun g g' b a1 a2 a3 a4 h1 h2=>?_⟩
  ·cases i with
   | succ i=>simp at hi
   | zero =>
    simp only [XB,Xa] at hi
    subst hi
    simp only [X9,VRs] at b2 b3 d2 d3
    exact ⟨bs,k0,c0,us,ty,bv,k1,c1,arr,clk,bn,k2,c2,arr',clk',e0,e1,e2,⟨a1,v2⟩,⟨b1,by simpa only [X9,VRs] using b2,by simpa only [X9,VRs] using b3,(fun p hp=>absurd hp (by simp)),b5⟩,d1,by simpa only [X9,VRs] using d2,by simpa only [X9,VRs] using d3,(fun p hp=>absurd hp (by simp)),d5⟩
  ·obtain ⟨b1,_,_,q1,p1⟩:=hg g a1 a2
   obtain ⟨b2,_,_,q2,p2⟩:=hg g' a3 a4
   rw [q1] at h1;rw [q2] at h2
   simp only [XH,Xa] at h1 h2
   subst h1
   subst h2
   rcases p1 with ⟨rfl,r1⟩ | ⟨rfl,r1⟩ | ⟨rfl,r1⟩ <;> rcases p2 with ⟨rfl,r2⟩ | ⟨rfl,r2⟩ | ⟨rfl,r2⟩ <;> first
    | rfl
    | (exfalso;exact n01 (r1.symm.trans r2))
    | (exfalso;exact n01 (r2.symm.trans r1))
    | (exfalso;exact n02 (r1.symm.trans r2))
    | (exfalso;exact n02 (r2.symm.trans r1))
    | (exfalso;exact n12 (r1.symm.trans r2))
    | (exfalso;exact n12 (r2.symm.trans r1))
 ·intro t x b h hb
  obtain ⟨rfl,rfl⟩:=lk t x h
  exact own b hb
 ·intro t x t' x' b h h' _ _
  rw [(lk t x h).1,(lk t' x' h').1]
 ·intro t g h
  have ht:t≠0:=by rintro rfl;simp at h
  show (if t=0 then _ else none)=none
  rw [if_neg ht]
 ·intro t g h
  cases (lk t _ h).2
 ·intro t x g h hgt
  obtain ⟨rfl,rfl⟩:=lk t x h
  simp only [Zb,Wv] at hgt
  show (if (0:Nat)=0 then _ else none)=none
  rw [if_pos rfl,if_neg (by omega),if_neg (by omega),if_neg (by omega)]
 ·intro t x b h hs
  obtain ⟨rfl,rfl⟩:=lk t x h
  cases hs
 ·intro v hv
  simp only [VR] at hv ⊢
  obtain ⟨b,k,c,q1,q2⟩:=hv
  refine ⟨b,k,c,?_,q2⟩
  rw [h0] at q1
  rw [<-q1]
  exact e0
end
end
section
def Zdt {α:Type} (d:α):List (Nat×α)->Nat->α
 | [],_=>d
 | (k,v)::r,n=>if k=n then v else Zdt d r n
def ZF (own raw:List Nat) (cfg cfg2:List (Nat×Nat×Bool)) (lr ll:List (Nat×List Nat)):Ann:={ own:=fun n=>if own.contains n then 1 else if raw.contains n then 2 else if raw.contains (n+1000000) then 3 else if raw.contains (n+2000000) then 4 else if raw.contains (n+3000000) then 5 else if raw.contains (n+4000000) then 6 else if raw.contains (n+5000000) then 7 else 0,cfg:=Zdt (0,true) cfg,cfg2:=Zdt (0,true) cfg2,lr:=Zdt [] lr,ll:=Zdt [] ll }
def ZA8:List (Nat×Ann):=[
 (63,ZF [] [] [] [] [(0,[1,0]),(1,[4])] []),
 (20,ZF [] [] [] [] [(0,[1,0]),(1,[6,1,0]),(2,[6]),(3,[4])] []),
 (21,ZF [] [] [] [] [(0,[1,0]),(1,[7,6]),(2,[5,4])] []),
 (24,ZF [] [] [] [] [(0,[0]),(1,[2])] []),
 (15,ZF [] [] [(36,0,false)] [] [(0,[1,0]),(1,[5,1,0]),(5,[20,11,7,6,5,1]),(6,[11,5,1]),(7,[4])] [(3,[11,5,1])]),
 (14,ZF [] [] [] [] [(0,[2,1,0]),(1,[9,2,1,0]),(2,[6]),(3,[]),(4,[6])] []),
 (10,ZF [] [] [] [] [(0,[2,1,0]),(1,[7,0]),(2,[16,7,0]),(3,[7]),(4,[6])] []),
 (26,ZF [] [] [(42,0,false)] [] [(0,[2,1,0]),(1,[8,2,1,0]),(2,[9,8,2]),(3,[20,9,8,2]),(4,[7,6]),(5,[11,10]),(6,[7,6])] []),
 (12,ZF [] [] [] [] [(0,[0]),(1,[2])] []),
 (11,ZF [] [] [(34,1,false),(36,0,false)] [] [(0,[1,0]),(1,[8,1,0]),(2,[4]),(3,[5,1,0]),(4,[5]),(5,[4])] []),
 (35,ZF [] [] [] [] [(0,[])] []),
 (9,ZF [] [] [] [] [(0,[3,2,1,0]),(1,[11,3,2,1,0]),(2,[8]),(3,[21,0]),(4,[]),(5,[8])] []),
 (27,ZF [] [] [(43,1,false),(36,0,false)] [] [(0,[3,0]),(1,[5,3,0]),(2,[5]),(3,[4])] []),
 (44,ZF [] [] [] [] [(0,[10,4,2,1,0]),(1,[])] []),
 (43,ZF [] [5000017,5000032] [(43,1,false)] [] [(3,[13,2,1,0]),(7,[28,2,1])] [(1,[13,2,1,0]),(5,[28,2,1])]),
 (32,ZF [] [] [] [] [(0,[2,1,0]),(1,[12,2,1,0]),(2,[8,2,0]),(3,[8]),(4,[6]),(5,[9,2,1,0]),(6,[45,9,1,0]),(7,[6]),(8,[57,1,0]),(9,[]),(10,[6])] []),
 (42,ZF [] [] [] [] [(0,[1,0]),(1,[9,8,7,0]),(2,[10,9,8,7,0]),(3,[9,8,7,6,0]),(4,[9,8,7,0]),(5,[20,9,8,7,0]),(6,[4]),(7,[9,8,7,0]),(8,[4])] [(2,[9,8,7,0])]),
 (34,ZF [] [5000035,5000054] [(34,1,false)] [] [(0,[10,4,3,2,1,0]),(1,[27,10,4,3,2,1,0]),(5,[31,4,3,2,1,0]),(6,[46,4,3,2,1,0]),(10,[50,4,1]),(11,[15,4,3,2,1,0]),(12,[71,15,4,3,2,1,0]),(13,[4,3,2,1,0]),(14,[16,4,3,2,1]),(15,[92,16,4,2,1]),(16,[])] [(3,[31,4,3,2,1,0]),(8,[50,4,1])]),
 (30,ZF [] [] [(28,1,false)] [] [(0,[3,2,1,0]),(1,[15,14,13,3,2,0]),(2,[16,15,14,13,3,2,0]),(3,[15,14,13,10,3,2,0]),(4,[25,15,14,13,10,3,2,0]),(5,[15,14,13,10,3,2,0]),(6,[15,14,13,3,2,0]),(7,[15,14,13,3,2,0]),(8,[12,3,2,0]),(9,[12]),(10,[8])] [(2,[15,14,13,3,2,0])]),
 (51,ZF [] [] [] [] [(0,[1,0]),(1,[5,1,0]),(2,[6,5,1,0]),(3,[11,6,1,0]),(4,[12]),(5,[4]),(6,[4]),(7,[13,1,0]),(8,[4]),(9,[16,1,0]),(10,[4]),(11,[19]),(12,[4]),(13,[4])] []),
 (58,ZF [] [] [] [] [(0,[0]),(1,[2])] []),
 (86,ZF [] [] [] [] [(0,[1,0]),(1,[5,1,0]),(2,[16,5,1,0]),(3,[4]),(4,[24,5,1,0]),(5,[4]),(6,[31]),(7,[4]),(9,[4]),(10,[6,5,1,0]),(11,[7,6,5,1,0]),(12,[8,7,6,5,1,0]),(13,[9,8,7,6,5,1,0]),(14,[10,9,8,7,6,5,1,0]),(15,[59,10,9,8,7,6,5,1,0]),(16,[64,10,9,8,7,6,5,1,0]),(17,[11,10,8,7,5,1,0]),(18,[73,11,10,8,7,5,1,0]),(19,[4]),(20,[10,8,7,5,1,0]),(21,[93,10,8]),(22,[4]),(23,[10]),(24,[]),(26,[12,8]),(27,[114,12,8]),(28,[4]),(29,[4]),(31,[13,8]),(32,[139,13,8]),(33,[4]),(34,[4]),(35,[4])] [(15,[10,9,8,7,6,5,1,0])]),
 (57,ZF [] [] [] [] [(0,[0]),(1,[2]),(2,[2])] []),
 (76,ZF [] [] [] [] [(0,[2,0]),(1,[4,2,0]),(2,[0]),(3,[2,0]),(4,[8,2,0]),(5,[2,0]),(6,[2,0]),(7,[2])] []),
 (77,ZF [] [] [] [] [(0,[2,0]),(1,[4,2,0]),(2,[0]),(3,[2,0]),(4,[8,2,0]),(5,[2,0]),(6,[2,0]),(7,[14,2,0]),(8,[2,0]),(9,[2,0]),(10,[2])] []),
 (54,ZF [] [] [] [] [(0,[0]),(1,[6,0]),(2,[8,7,6,0]),(3,[6,4,0]),(4,[11,6,0]),(5,[2]),(6,[2])] [(2,[6,0])]),
 (45,ZF [] [] [] [] [(0,[1,0]),(1,[4])] []),
 (67,ZF [] [] [] [] [(0,[1,0]),(1,[4])] []),
 (53,ZF [] [] [] [] [(0,[1,0]),(1,[12,1,0]),(2,[4]),(3,[15,1,0]),(4,[5,0]),(5,[20,5,0]),(6,[5,0]),(7,[4]),(8,[26,1,0]),(9,[7,6,1,0]),(10,[32,6,1,0]),(11,[8,6,0]),(12,[36,8,6,0]),(13,[8,6,0]),(14,[42,8,6,0]),(15,[4]),(16,[4]),(17,[45,1]),(18,[47,46,45,1]),(19,[45,10,9,1]),(20,[53,45,9,1]),(21,[4]),(22,[4])] [(12,[8,6,0]),(18,[45,1])]),
 (60,ZF [] [] [] [] [(0,[1,0]),(1,[7,0]),(2,[8,7,0]),(3,[9,8,7,0]),(4,[9,8,7,0]),(5,[26,9,8,7,0]),(6,[33,9,8,7,0]),(7,[11,9,8,7,0]),(8,[43,11,9,8,7,0]),(9,[4]),(10,[9,8,7,0]),(11,[12,9,8,7,0]),(12,[51,12,9,8,7,0]),(13,[12,9,8,7,0]),(14,[64,12,9,8,7,0]),(15,[4]),(16,[10,9,8,7,0]),(17,[10,9,8,7,0]),(18,[98,9,8,7,0]),(19,[4]),(20,[13,9,8]),(21,[108,13,9,8]),(22,[4]),(23,[14,9,8,7,0]),(24,[15,14,9,8,7,0]),(25,[124,15,14,9,8,7,0]),(26,[15,14,9,8,7,0]),(27,[139,15,14,9,8,7,0]),(28,[16,15,14,9,8,7,0]),(29,[143,16,15,14,9,8,7,0]),(30,[16,15,14,9,8,7,0]),(31,[156,16,15,14,9,8,7,0]),(32,[4]),(33,[4]),(34,[160,1,0]),(35,[4]),(36,[171,1,0]),(37,[175]),(38,[177,176,175]),(39,[175,6,5]),(40,[181,175,5]),(41,[4]),(42,[4]),(43,[183,1,0]),(44,[4])] [(5,[9,8,7,0]),(12,[12,9,8,7,0]),(25,[15,14,9,8,7,0]),(29,[16,15,14,9,8,7,0]),(38,[175])]),
 (47,ZF [] [] [] [] [(0,[1,0]),(1,[4])] []),
 (55,ZF [] [] [] [] [(0,[3,2,1,0]),(1,[13,3,2,1,0]),(2,[8]),(3,[15,3,2,1,0]),(4,[8]),(5,[20,3,2,1,0]),(6,[3,2,1,0]),(7,[3,2,1,0]),(8,[9,3,2,1,0]),(9,[9,3,2,1,0]),(10,[10,9,3,2,1,0]),(11,[36,10,9,3,2,1,0]),(12,[11,10,9,3,2,1,0]),(13,[41,11,10,9,3,2,1,0]),(14,[11,10,9,3,2,1,0]),(15,[10,9,3,2,1,0]),(16,[10,9,3,2,1,0]),(17,[10,9]),(18,[8])] [(11,[10,9,3,2,1,0])]),
 (62,ZF [] [] [] [] [(0,[2,0]),(1,[4,2,0]),(2,[9,4,2,0]),(3,[4,2,0]),(4,[5,4,2,0]),(5,[16,5,4,2,0]),(6,[3,2]),(7,[4,2,0]),(8,[3,2])] [(2,[4,2,0])]),
 (61,ZF [] [] [] [] [(0,[0]),(1,[2])] []),
 (5,ZF [] [] [(13,2,false)] [] [(0,[0]),(1,[3,0]),(2,[23,3,0]),(3,[2]),(4,[4,3,0]),(5,[5,4,3,0]),(6,[31,5,4,3,0]),(7,[5,4,3,0]),(8,[6,5,4,3,0]),(9,[40,6,5,4,3,0]),(10,[15,6,5,4,3,0]),(11,[16,15,6,5,4,3,0]),(12,[47,16,15,6,5,4,3,0]),(13,[16,15,6,5,4,3,0]),(14,[16,15,6,5,4,3,0]),(15,[68,5,4,3,0]),(16,[2]),(17,[69,40,6,5,4,3,0]),(18,[7,6,5,4,3,0]),(19,[74,7,6,5,4,3,0]),(20,[7,6,5,4,3,0]),(21,[7,6,5,4,3,0]),(22,[90,5,4,3,0]),(23,[2]),(24,[91,40,6,5,4,3,0]),(25,[9,8,6,5,3,0]),(26,[9,6,5,4,3,0]),(27,[106,5,4,3,0]),(28,[2]),(29,[107,6,5,4,3,0]),(30,[11,10,6,5,4,3,0]),(31,[13,12,11,10,6,5,4,3,0]),(32,[14,13,12,11,10,6,5,4,3,0]),(33,[119,14,13,12,11,10,6,5,4,3,0]),(34,[14,13,12,11,10,6,5,4,3,0]),(35,[129,14,13,12,11,10,6,5,4,3,0]),(36,[14,13,12,11,10,6,5,4,3,0]),(37,[142,5,4,3,0]),(38,[2]),(39,[147,5,4,3,0]),(40,[2]),(41,[2])] [(6,[5,4,3,0]),(12,[16,15,6,5,4,3,0]),(33,[14,13,12,11,10,6,5,4,3,0])]),
 (4,ZF [] [] [(13,2,false),(7,2,false)] [] [(0,[1,0]),(1,[6,5,1,0]),(2,[27,6,5,1,0]),(3,[4]),(4,[30,6,5,1,0]),(5,[6,5,1,0]),(6,[35,6,5,1,0]),(7,[6,5,1,0]),(8,[7,6,5,1,0]),(9,[41,7,6,5,1,0]),(10,[7,6,5,1,0]),(11,[7,6,5,1,0]),(12,[8,6,5,1,0]),(13,[54,8,6,5,1,0]),(14,[8,6,5,1,0]),(15,[8,6,5,1,0]),(16,[9,6,5,1,0]),(17,[67,9,6,5,1,0]),(18,[9,6,5,1,0]),(19,[10,9,6,5,1,0]),(20,[73,10,9,6,5,1,0]),(21,[10,9,6,5,1,0]),(22,[12,11,10,9,6,5,1,0]),(23,[13,12,11,10,9,6,5,1,0]),(24,[14,13,12,11,10,9,6,5,1,0]),(25,[85,14,13,12,11,10,9,6,5,1,0]),(26,[14,13,12,11,10,9,6,5,1,0]),(27,[14,13,12,11,10,9,6,5,1,0]),(28,[13,12,11,10,9,6,5,1,0]),(29,[15,13,12,11,10,9,6,5,1,0]),(30,[110,15,13,12,11,10,9,6,5,1,0]),(31,[15,13,12,11,10,9,6,5,1,0]),(32,[15,13,12,11,10,9,6,5,1,0]),(33,[128,10,9,6,5,1,0]),(34,[4]),(35,[4])] [(9,[7,6,5,1,0]),(13,[8,6,5,1,0]),(17,[9,6,5,1,0]),(20,[10,9,6,5,1,0]),(25,[14,13,12,11,10,9,6,5,1,0]),(30,[15,13,12,11,10,9,6,5,1,0])]),
 (3,ZF [] [] [(7,2,false)] [] [(0,[2,1,0]),(1,[8,7,2,1,0]),(2,[27,8,7,2,1,0]),(3,[6]),(4,[30,8,7,2,1,0]),(5,[8,7,2,1,0]),(6,[35,8,7,2,1,0]),(7,[8,7,2,1,0]),(8,[9,8,7,2,1,0]),(9,[41,9,8,7,2,1,0]),(10,[9,8,7,2,1,0]),(11,[9,8,7,2,1,0]),(12,[10,8,7,2,1,0]),(13,[65,10,8,7,2,1,0]),(14,[10,8,7,2,1,0]),(15,[10,8,7,2,1,0]),(16,[11,8,7,2,1,0]),(17,[79,11,8,7,2,1,0]),(18,[11,8,7,2,1,0]),(19,[11,8,7,2,1,0]),(20,[12,8,7,2,1]),(21,[103,12,8,7,2,1]),(22,[12,8,7,2,1]),(23,[12,8,7,2,1]),(24,[12,8,7,2,1]),(25,[14,13,8,7]),(26,[137,14,13]),(27,[6]),(28,[15,14,13]),(29,[141,15,14,13]),(30,[15,14,13]),(31,[152,15,14,13]),(32,[6]),(33,[6])] [(9,[9,8,7,2,1,0]),(13,[10,8,7,2,1,0]),(17,[11,8,7,2,1,0]),(21,[12,8,7,2,1]),(29,[15,14,13])]),
 (6,ZF [] [] [(7,2,false)] [] [(0,[0]),(1,[3,0]),(2,[25,3,0]),(3,[2]),(4,[4,3,0]),(5,[5,4,3,0]),(6,[33,5,4,3,0]),(7,[5,4,3,0]),(8,[6,5,4,3,0]),(9,[42,6,5,4,3,0]),(10,[17,6,5,4,3,0]),(11,[18,17,6,5,4,3,0]),(12,[49,18,17,6,5,4,3,0]),(13,[18,17,6,5,4,3,0]),(14,[18,17,6,5,4,3,0]),(15,[70,5,4,3,0]),(16,[2]),(17,[71,42,6,5,4,3,0]),(18,[7,6,5,4,3,0]),(19,[76,7,6,5,4,3,0]),(20,[7,6,5,4,3,0]),(21,[7,6,5,4,3,0]),(22,[96,5,4,3,0]),(23,[2]),(24,[97,42,6,5,4,3,0]),(25,[9,8,6,5,3,0]),(26,[9,6,5,4,3,0]),(27,[116,5,4,3,0]),(28,[2]),(29,[117,42,6,5,4,3,0]),(30,[11,10,6,5,4,3,0]),(31,[13,12,11,10,6,5,4,3,0]),(32,[14,13,12,11,10,6,5,4,3,0]),(33,[131,14,13,12,11,10,6,5,4,3,0]),(34,[14,13,12,11,10,6,5,4,3,0]),(35,[151,14,13,12,11,10,6,5,4,3,0]),(36,[14,13,12,11,10,6,5,4,3,0]),(37,[164,5,4,3,0]),(38,[2]),(39,[165,6,5,4,3,0]),(40,[15,6,5,4,3,0]),(41,[16,15,6,5,4,3,0]),(42,[173,16,15,6,5,4,3,0]),(43,[16,15,6,5,4,3,0]),(44,[16,15,6,5,4,3,0]),(45,[194,5,4,3,0]),(46,[2]),(47,[199,5,4,3,0]),(48,[2]),(49,[2])] [(6,[5,4,3,0]),(12,[18,17,6,5,4,3,0]),(33,[14,13,12,11,10,6,5,4,3,0]),(42,[16,15,6,5,4,3,0])]),
 (23,ZF [] [] [] [] [(0,[2,1,0]),(1,[7,2,1,0]),(2,[8,7,2,1,0]),(3,[12,8,7,2,1,0]),(4,[8,7,2,1,0]),(5,[19,8,7,2,1,0]),(6,[46,8,7,2,1,0]),(7,[6]),(8,[8,7,2,1,0]),(9,[6])] [(3,[8,7,2,1,0])]),
 (40,ZF [] [] [] [] [(0,[3,2]),(1,[4])] []),
 (18,ZF [] [] [] [] [(0,[0]),(1,[2])] []),
 (17,ZF [] [] [] [] [(0,[3,0]),(1,[5,3,0]),(2,[18,5,3,0]),(3,[5,3,0]),(4,[6,5,3,0]),(5,[6,5,3,0]),(6,[52,6,5,0]),(7,[6,5,0]),(8,[4])] [(2,[5,3,0])]),
 (8,ZF [] [] [(7,2,false)] [] [(0,[]),(1,[1]),(2,[7,1]),(3,[0]),(4,[2,1]),(5,[3,2,1]),(6,[4,3,2]),(7,[0])] []),
 (19,ZF [] [] [] [] [(0,[2,1,0]),(1,[8,2,1,0]),(2,[13,8,2,1,0]),(3,[8,2,1,0]),(4,[31,8,2,1,0]),(5,[9,8,0]),(6,[7,6]),(7,[7,6])] [(2,[8,2,1,0])]),
 (52,ZF [] [] [] [] [(0,[0]),(1,[6,0]),(2,[4,3,0]),(3,[17,4,0]),(4,[2]),(5,[0]),(6,[2])] [(1,[0])]),
 (59,ZF [] [] [] [] [(0,[0]),(1,[4,0]),(2,[4,0]),(3,[3,2]),(4,[11,4,0]),(5,[3,2]),(6,[15,4,0]),(7,[6,5,4,0]),(8,[24,4,0]),(9,[6,5,4,0]),(10,[33,4,0]),(11,[6,5,4,0]),(12,[45,6,5,4,0]),(13,[3,2]),(14,[7,6,5,4,0]),(15,[48,7,6,5,4,0]),(16,[7,6,5,4,0]),(17,[60,7,6,5,4,0]),(18,[3,2]),(19,[7,6,5,4,0]),(20,[83,5,4]),(21,[3,2]),(22,[3,2])] [(15,[7,6,5,4,0])]),
 (25,ZF [] [] [] [] [(0,[0]),(1,[7,0]),(2,[2]),(3,[3]),(4,[4,3]),(5,[13,4,3]),(6,[4,3]),(7,[48,4,3]),(8,[2]),(9,[2])] [(5,[4,3])]),
 (41,ZF [] [] [] [] [(0,[0]),(1,[3,0]),(2,[4,3,0]),(3,[5,4,3,0]),(4,[9,5,4,3,0]),(5,[5,4,3,0]),(6,[15,5,4,3,0]),(7,[5,3,0]),(8,[5,4,3,0]),(9,[5,4,3,0]),(10,[2])] [(4,[5,4,3,0])]),
 (22,ZF [] [] [] [] [(0,[1,0]),(1,[15,1,0]),(2,[4]),(3,[6,5,1]),(4,[34,6,5]),(5,[4]),(6,[7,6,5]),(7,[38,7,6,5]),(8,[7,6,5]),(9,[45,7,6,5]),(10,[4]),(11,[71,7,6,5]),(12,[4]),(13,[4])] [(7,[7,6,5])]),
 (16,ZF [] [] [] [] [(0,[0]),(1,[2])] []),
 (39,ZF [] [] [] [] [(0,[1,0]),(1,[5,1,0]),(2,[9,5,1,0]),(3,[5,1,0]),(4,[16,5,1,0]),(5,[4]),(6,[4])] [(2,[5,1,0])]),
 (38,ZF [] [] [] [] [(0,[0]),(1,[2])] []),
 (29,ZF [] [] [] [] [(0,[0]),(1,[3,0]),(2,[11,10,9,3,0]),(3,[12,11,10,9,3,0]),(4,[11,10,9,5,4,3,0]),(5,[11,10,9,6,5,3,0]),(6,[34,11,10,9,3,0]),(7,[2]),(8,[11,10,9,3,0]),(9,[2])] [(3,[11,10,9,3,0])]),
 (31,ZF [] [] [] [] [(0,[0]),(1,[2])] []),
 (37,ZF [] [] [] [] [(0,[1,0]),(1,[16,1,0]),(2,[4]),(3,[6,5,1]),(4,[35,6,5]),(5,[4]),(6,[38,37,36,6,5]),(7,[39,38,37,36,6,5]),(8,[38,37,36,8,7,6,5]),(9,[43,38,37,36,8,7,6,5]),(10,[4]),(11,[46,38,37,36,6,5]),(12,[4]),(13,[38,37,36,6,5]),(14,[4])] [(7,[38,37,36,6,5])]),
 (33,ZF [] [] [] [] [(0,[0]),(1,[2])] []),
 (46,ZF [] [] [] [] [(0,[0]),(1,[2])] []),
 (13,ZF [] [] [] [] [(0,[]),(1,[0])] []),
 (7,ZF [] [] [(28,1,false)] [] [(0,[]),(1,[0])] []),
 (48,ZF [] [] [] [] [(0,[1,0]),(1,[6,1,0]),(2,[4]),(3,[4])] []),
 (28,ZF [] [] [] [] [(0,[]),(1,[0])] []),
 (36,ZF [] [] [] [] [(0,[0]),(1,[0]),(2,[2])] []),
 (50,ZF [] [] [] [] [(0,[3,2]),(1,[5,3,2]),(2,[12,5,3,2]),(3,[4]),(4,[4])] []),
 (79,ZF [] [] [] [] [(0,[0]),(1,[3,0]),(2,[2]),(3,[10]),(4,[2]),(5,[2])] []),
 (1000000,{})]
def ann:Nat->Ann:=Zdt {} ZA8
def ZIg:List (Nat×Bool):=[
 (36,true),
 (49,true),
 (1000000,false)]
def BY:Nat->Bool:=Zdt false ZIg
noncomputable def CF:Nat->Option Z0:=Zfz Tryd.prog ann
noncomputable def FC:Nat->Option Z0:=fun f=>(CF f).map ZiF
def Zpi:List (Nat×Option (List AVal->Za->Option (AVal×Za))):=[
 (78,some (ZiE)),
 (92,some (ZiE)),
 (66,some (ZlQ)),
 (64,some (ZjH)),
 (49,some (Zfi 50)),
 (28,some (Zjn)),
 (1000000,none)]
def PR:ZcZ:=Zdt none Zpi
theorem xw (c d:Zc) (h:c=d) (m:Nat) (tm:Tms) (σ:Za):evC FC PR BY m c tm σ=evC FC PR BY m d tm σ:=by rw [h]
noncomputable abbrev E:Zz:=EV FC PR BY
theorem Zap {f:Nat} {fn:Z0} (hp:PR f=none) (hf:FC f=some fn) (args:List AVal) (σ:Za):E f args σ=ZaJ σ.length fn (evC FC PR BY σ.length fn.body (enterA 0 args []) σ):=Zsi hp hf args σ
end
section
def Zfv:Zc:=(.seq (.region [oM 18 1,oM 19 6,oI 20 (.call 37 0 true [(.t 18),(.t 19)])] none [20,11,7,6,5,1]) (.cond (.t 20) (.region [oM 21 5,oM 22 6,oM 23 7,oI 24 (.build [(.str []),(.str []),(.int .i64 0)] [(0,1,(.t 22)),(2,1,(.t 23))]),oI 25 (.bslice false 3 1 (.agg [(.str []),(.str []),(.int .i64 0)]) [(0,(.t 24))]),oI 26 (.app 3 40 (.agg [(.str []),(.str []),(.int .i64 0)]) (.t 21) (.t 25)),oM 5 26] none [11,5,1]) .skip))
def ZiJ:Zc:=Zfv
def Zht:=xw ZiJ Zfv rfl
def ZiH:Zc:=(.seq (.region [oM 27 5,oI 28 (.call 36 0 false [(.t 27)]),oM 4 28] none [4]) .ret)
def Zku:Zc:=ZiH
def ZpV:=xw Zku ZiH rfl
def Zk5:Zc:=(.seq (.region [oI 4 (.mov (.c (.lst true [])))] none [1,0]) (.seq (.region [oI 5 (.mov (.c (.lst true [])))] none [5,1,0]) (.range [oM 8 0,oI 9 (.nilchk (.t 8)),oF 10 0 9,oL 11 10] [11,5,1] 11 15 1 false [oI 16 (.ext (.t 15) 0),oI 17 (.ext (.t 15) 1),oM 6 16,oM 7 17] ZiJ Zku)))
def Zjt:Z0:=⟨[(.tmp 4)],Zk5⟩
theorem ZDq:FC 15=some Zjt:=by kernel_rfl
theorem ZFH:Zjt.body=Zk5:=rfl
theorem Zvg:Zjt.res=[(.tmp 4)]:=rfl
def Ziu:Zc:=(.seq (.region [oI 6 (.mov (.c (.int .i64 0)))] none [2,1,0]) (.seq (.seq (.region [oM 7 1,oI 8 (.call 33 0 true [(.t 7)]),oI 9 (.un .not (.t 8))] none [9,2,1,0]) (.cond (.t 9) (.seq (.region [oI 6 (.mov (.c (.int .i64 150)))] none [6]) .ret) .skip)) (.seq (.region [oM 10 0,oI 11 (.nilchk (.t 10)),oF 12 0 11,oL 13 12,oM 14 1,oM 15 2,oN (.mset 2 (.t 13) (.t 14) (.t 15))] none []) (.seq (.region [oI 6 (.mov (.c (.int .i64 0)))] none [6]) .ret))))
def ZjK:Z0:=⟨[(.tmp 6)],Ziu⟩
theorem Zm4:FC 14=some ZjK:=by kernel_rfl
theorem Zp8:ZjK.body=Ziu:=rfl
theorem Zoc:ZjK.res=[(.tmp 6)]:=rfl
def ZgS:Zc:=(.seq (.region [oI 4 (.mov (.c (.lst true [])))] none [1,0]) (.seq (.seq (.region [oM 6 1,oI 7 (.call 33 0 true [(.t 6)]),oI 8 (.un .not (.t 7))] none [8,1,0]) (.cond (.t 8) (.seq (.region [oI 4 (.mov (.c (.lst true [])))] none [4]) .ret) .skip)) (.seq (.region [oI 5 (.alloc [(.lst true [])])] none [5,1,0]) (.seq (.region [oM 9 0,oI 10 (.nilchk (.t 9)),oF 11 0 10,oL 12 11,oM 13 1,oI 14 (.call 31 0 true [(.t 13)]),oM 15 1,oI 16 (.sindex (.t 15) (.c (.int .i64 0))),oI 17 (.bin .eql (.t 16) (.c (.int .u8 36))),oI 18 (.mkfn 35 [(.t 5)]),oI 19 (.call 34 1 false [(.t 12),(.c (.str [0])),(.t 14),(.t 17),(.t 18)])] (some [(3,5),(10,10)]) [5]) (.seq (.region [oL 20 5,oI 21 (.call 36 0 false [(.t 20)]),oM 4 21] none [4]) .ret)))))
def ZjX:Z0:=⟨[(.tmp 4)],ZgS⟩
theorem ZjP:FC 11=some ZjX:=by kernel_rfl
theorem ZjF:ZjX.body=ZgS:=rfl
theorem Zj3:ZjX.res=[(.tmp 4)]:=rfl
def Zh1:Zc:=(.region [oL 7 3,oM 8 0,oM 9 1,oM 10 2,oI 11 (.build [(.str []),(.str []),(.int .i64 0)] [(0,1,(.t 8)),(1,1,(.t 9)),(2,1,(.t 10))]),oI 12 (.bslice false 3 1 (.agg [(.str []),(.str []),(.int .i64 0)]) [(0,(.t 11))]),oI 13 (.app 3 40 (.agg [(.str []),(.str []),(.int .i64 0)]) (.t 7) (.t 12)),oN (.st 1 (.t 3) (.t 13))] none [])
def ZlM:Z0:=⟨[],Zh1⟩
theorem Zpe:FC 35=some ZlM:=by kernel_rfl
theorem Zr3:ZlM.body=Zh1:=rfl
theorem ZnF:ZlM.res=[]:=rfl
def ZgP:Zc:=(.seq (.region [oI 8 (.mov (.c (.int .i64 0)))] none [3,2,1,0]) (.seq (.seq (.region [oM 9 1,oI 10 (.call 29 0 true [(.t 9)]),oI 11 (.un .not (.t 10))] none [11,3,2,1,0]) (.cond (.t 11) (.seq (.region [oI 8 (.mov (.c (.int .i64 150)))] none [8]) .ret) .skip)) (.seq (.seq (.region [oM 12 0,oI 13 (.nilchk (.t 12)),oF 14 0 13,oL 15 14,oM 16 1,oI 17 (.call 31 0 true [(.t 16)]),oM 18 2,oM 19 3,oI 20 (.call 30 0 true [(.t 15),(.t 17),(.t 18),(.t 19)]),oI 21 (.un .not (.t 20))] (some [(3,5),(8,8)]) [21,0]) (.cond (.t 21) (.region [oM 22 0,oI 23 (.nilchk (.t 22)),oF 24 1 23,oL 25 24,oI 26 (.bin .add (.t 25) (.c (.int .i64 1))),oI 27 (.nilchk (.t 22)),oF 28 1 27,oN (.st 1 (.t 28) (.t 26))] none []) .skip)) (.seq (.region [oI 8 (.mov (.c (.int .i64 0)))] none [8]) .ret))))
def Zlr:Z0:=⟨[(.tmp 8)],ZgP⟩
theorem Zrj:FC 9=some Zlr:=by kernel_rfl
theorem Zj6:Zlr.body=ZgP:=rfl
theorem Zjv:Zlr.res=[(.tmp 8)]:=rfl
def Zl9:Zc:=(.seq (.seq (.region [oM 62 0,oI 63 (.nilchk (.t 62)),oF 64 1 63,oL 65 64,oM 66 2,oI 67 (.iaddr 1 (.t 66) (.c (.int .i64 0))),oL 68 67,oI 69 (.look 2 .nilp false (.t 65) (.t 68)),oM 15 69] (some [(3,5),(3,6)]) [15,4,3,2,1,0]) (.seq (.region [oM 70 15,oI 71 (.peq true (.t 70) (.c .nilp))] none [71,15,4,3,2,1,0]) (.cond (.t 71) (.region [oM 72 15,oM 73 1,oM 74 2,oI 75 (.iaddr 1 (.t 74) (.c (.int .i64 0))),oL 76 75,oI 77 (.call 48 0 true [(.t 73),(.t 76)]),oM 78 2,oI 79 (.slice 1 (.t 78) (some (.c (.int .i64 1))) none none),oM 80 4,oI 81 (.call 34 1 false [(.t 72),(.t 77),(.t 79),(.c (.bool false)),(.t 80)])] (some [(3,7),(4,7),(5,7),(9,9)]) [4,3,2,1,0]) .skip))) (.seq (.region [oM 82 0,oI 83 (.nilchk (.t 82)),oF 84 1 83,oL 85 84,oI 86 (.look 2 .nilp false (.t 85) (.c (.str [43]))),oM 16 86] none [16,4,3,2,1]) (.seq (.region [oM 87 16,oI 88 (.peq true (.t 87) (.c .nilp)),oM 89 88,⟨(some 90),(.mov (.t 3)),(some (89,true)),[]⟩,⟨(some 91),(.un .not (.t 90)),(some (89,true)),[]⟩,oI 92 (.pick (.t 89) (.t 91) (.c (.bool false)))] none [92,16,4,2,1]) (.cond (.t 92) (.region [oM 93 16,oM 94 1,oI 95 (.call 48 0 true [(.t 94),(.c (.str [43]))]),oM 96 2,oI 97 (.slice 1 (.t 96) (some (.c (.int .i64 1))) none none),oM 98 4,oI 99 (.call 34 1 false [(.t 93),(.t 95),(.t 97),(.c (.bool false)),(.t 98)])] (some [(2,4),(6,6)]) []) .skip))))
def ZhN:Zc:=Zl9
def Zvq:=xw ZhN Zl9 rfl
def Zhu:Zc:=(.region [oM 57 4,oM 58 1,oM 59 13,oM 60 14,oI 61 (.callv (.t 57) [(.t 58),(.t 59),(.t 60)])] none [50,4,1])
def ZiS:Zc:=Zhu
def ZqQ:=xw ZiS Zhu rfl
def ZmW:Zc:=.ret
def ZmE:Zc:=ZmW
def Zfp:Zc:=(.seq (.seq (.region [oM 44 2,oI 45 (.len (.t 44)),oI 46 (.bin .eql (.t 45) (.c (.int .i64 0)))] none [46,4,3,2,1,0]) (.cond (.t 46) (.range [oM 47 0,oI 48 (.nilchk (.t 47)),oF 49 0 48,oL 50 49] [50,4,1] 50 54 3 true [oI 55 (.ext (.t 54) 0),oI 56 (.ext (.t 54) 1),oM 13 55,oM 14 56] ZiS ZmE) .skip)) ZhN)
def Zgl:Zc:=Zfp
def ZhJ:=xw Zgl Zfp rfl
def Zhv:Zc:=(.region [oM 38 4,oM 39 1,oI 40 (.call 48 0 true [(.t 39),(.c (.str [35]))]),oM 41 11,oM 42 12,oI 43 (.callv (.t 38) [(.t 40),(.t 41),(.t 42)])] none [31,4,3,2,1,0])
def ZgA:Zc:=Zhv
def ZoN:=xw ZgA Zhv rfl
def ZFd:Zc:=.skip
def Zmv:Zc:=ZFd
def ZkO:Zc:=(.seq (.seq (.region [oM 17 0,oI 18 (.nilchk (.t 17)),oF 19 1 18,oL 20 19,oI 21 (.look 2 .nilp false (.t 20) (.c (.str [35]))),oM 10 21] none [10,4,3,2,1,0]) (.seq (.region [oM 22 10,oI 23 (.peq true (.t 22) (.c .nilp)),oM 24 23,⟨(some 25),(.mov (.t 3)),(some (24,true)),[]⟩,⟨(some 26),(.un .not (.t 25)),(some (24,true)),[]⟩,oI 27 (.pick (.t 24) (.t 26) (.c (.bool false)))] none [27,10,4,3,2,1,0]) (.cond (.t 27) (.range [oM 28 10,oI 29 (.nilchk (.t 28)),oF 30 0 29,oL 31 30] [31,4,3,2,1,0] 31 35 1 true [oI 36 (.ext (.t 35) 0),oI 37 (.ext (.t 35) 1),oM 11 36,oM 12 37] ZgA Zmv) .skip))) Zgl)
def Zri:Z0:=⟨[],ZkO⟩
theorem Zon:FC 34=some Zri:=by kernel_rfl
theorem Zpm:Zri.body=ZkO:=rfl
def Zl3:Zc:=(.seq (.region [oM 40 0,oI 41 (.nilchk (.t 40)),oF 42 0 41,oL 43 42,oM 44 2,oI 45 (.look 2 (.int .i64 0) true (.t 43) (.t 44)),oM 39 45,oI 46 (.ext (.t 39) 0),oI 47 (.ext (.t 39) 1),oM 11 46,oM 12 47] none [12,3,2,0]) (.seq (.region [oM 48 0,oI 49 (.nilchk (.t 48)),oF 50 0 49,oL 51 50,oM 52 2,oM 53 3,oN (.mset 2 (.t 51) (.t 52) (.t 53))] none [12]) (.seq (.region [oM 54 12,oM 8 54] none [8]) .ret)))
def Zlh:Zc:=Zl3
def ZIF:=xw Zlh Zl3 rfl
def Zgt:Zc:=(.seq (.region [oI 16 (.bin .lss (.t 15) (.t 14))] none [16,15,14,13,3,2,0]) (.seq (.cond (.t 16) .skip (.exit 0)) (.seq (.block 1 (.seq (.region [oI 17 (.iaddr 1 (.t 13) (.t 15)),oL 18 17,oM 10 18] none [15,14,13,10,3,2,0]) (.seq (.seq (.region [oM 19 0,oI 20 (.nilchk (.t 19)),oF 21 1 20,oL 22 21,oM 23 10,oI 24 (.look 2 .nilp false (.t 22) (.t 23)),oI 25 (.peq false (.t 24) (.c .nilp))] none [25,15,14,13,10,3,2,0]) (.cond (.t 25) (.region [oM 26 0,oI 27 (.nilchk (.t 26)),oF 28 1 27,oL 29 28,oM 30 10,oI 31 (.call 28 1 false []),oN (.mset 2 (.t 29) (.t 30) (.t 31))] (some [(3,5),(5,5)]) [15,14,13,10,3,2,0]) .skip)) (.region [oM 32 0,oI 33 (.nilchk (.t 32)),oF 34 1 33,oL 35 34,oM 36 10,oI 37 (.look 2 .nilp false (.t 35) (.t 36)),oM 0 37] none [15,14,13,3,2,0])))) (.region [oI 38 (.bin .add (.t 15) (.c (.int .i64 1))),oM 15 38] none [15,14,13,3,2,0]))))
def Zlq:Zc:=Zgt
def Zlm:=xw Zlq Zgt rfl
def ZjG:Zc:=(.seq (.region [oI 8 (.mov (.c (.bool false)))] none [3,2,1,0]) (.seq (.seq (.region [oM 13 1,oI 14 (.len (.t 13)),oI 15 (.mov (.c (.int .i64 0)))] none [15,14,13,3,2,0]) (.block 0 (.loop [15,14,13,3,2,0] Zlq))) Zlh))
def Zim:Z0:=⟨[(.tmp 8)],ZjG⟩
theorem ZCU:FC 30=some Zim:=by kernel_rfl
theorem ZuV:Zim.body=ZjG:=rfl
theorem ZFw:Zim.res=[(.tmp 8)]:=rfl
noncomputable def Zg9 (m:Nat) (tm:Tms) (σ:Za):Option (AVal×Za):=(ZaJ m Zim (Zbw FC PR BY m Zlh (WY (ZaQ 0) (evL FC PR BY m [15,14,13,3,2,0] Zlq tm σ))))
def Ziz:Zc:=(.seq (.region [oI 4 (.mov (.c (.str [])))] none [1,0]) (.seq (.seq (.region [oM 5 0,oI 6 (.bin .eql (.t 5) (.c (.str [0])))] none [6,1,0]) (.cond (.t 6) (.seq (.region [oM 7 1,oM 4 7] none [4]) .ret) .skip)) (.seq (.region [oM 8 0,oI 9 (.bin .add (.t 8) (.c (.str [47]))),oM 10 1,oI 11 (.bin .add (.t 9) (.t 10)),oM 4 11] none [4]) .ret)))
def Zll:Z0:=⟨[(.tmp 4)],Ziz⟩
theorem ZrM:FC 48=some Zll:=by kernel_rfl
theorem ZnH:Zll.body=Ziz:=rfl
theorem ZoV:Zll.res=[(.tmp 4)]:=rfl
def ZhO:Zc:=(.seq (.region [oI 2 (.mov (.c (.lst true [])))] none [0]) (.seq (.region [oM 3 0,oI 4 (.call 49 0 true [(.t 3),(.c (.fn 50 []))])] none [0]) (.seq (.region [oM 5 0,oM 2 5] none [2]) .ret)))
def Zlz:Z0:=⟨[(.tmp 2)],ZhO⟩
theorem Znz:FC 36=some Zlz:=by kernel_rfl
theorem Zqy:Zlz.body=ZhO:=rfl
theorem ZoA:Zlz.res=[(.tmp 2)]:=rfl
end
section
open Go.RowKit
inductive Ty where
 | bool
 | int (k:IntKind)
 | str
 | slice (s:Bool) (e:Ty)
 | struct (fs:List Ty)
 deriving Inhabited
def ZcM:Option TypeDesc->Bool
 | some (.struct _)=>true
 | some (.array _ _)=>true
 | _=>false
def Zg8 (P:Program):Nat->List Field->Nat->Bool
 | at',[],n=>at' == n
 | at',f::fs,n=>f.offset == at' && Zg8 P (at'+P.cellsOf f.type) fs n
def ZcF (P:Program):Nat->TypeId->Option Ty
 | 0,_=>none
 | n+1,t=>match P.underlying t with
  | some .bool=>some .bool
  | some (.int k)=>some (.int k)
  | some .string=>some .str
  | some (.slice e)=>if 0 < P.cellsOf e then (ZcF P n e).map (.slice (ZcM (P.underlying e))) else none
  | some (.struct fs)=>if Zg8 P 0 fs.toList (P.cellsOf t) then (fs.toList.mapM fun f=>ZcF P n f.type).map .struct else none
  | _=>none
def ZbW (s:Bool) (y:List AVal):AVal:=if s then .agg y else y.headD .nilp
def Imm.of (w:World):Imm:=fun b o=>w.cell? ⟨b,o,none⟩
section
variable {H:Type} {enc:TypeId×Value->H} {P:Program} {w:World} {spare:Nat->Bool} {held:Bool}
theorem ZvW {b off:Nat} {s:Option Nat} {u:Value} (h:w.cell? ⟨b,off,s⟩=some u):s=none:=by
 unfold World.cell? at h
 split at h
 ·rcases s with _ | s
  ·rfl
  ·simp at h
 ·cases h
theorem ZI4 {s:Bool} {y:List AVal} (h:s=false->y.length=1) (h1:s=false->∀ x ∈ y,ZI x=true):(ZbW s y).cells=y:=by
 cases s with
 | true=>rfl
 | false =>
  match y,h rfl with
  | [x],_ =>
   have:=h1 rfl x (by simp)
   cases x <;> simp_all [ZbW,AVal.cells,ZI]
theorem ZDZ {a:Addr} (h:a.spot=none) (n:Nat):a.add n=⟨a.block,a.off+n,none⟩:=by
 unfold Addr.add
 split
 ·rename_i e;subst e;cases a;simp_all
 ·rfl
theorem ZHA {I:Imm} {β:Bmap} {xs:List AVal} {vs:List Value} {n:Nat} (h:VRs I β xs (vs.take n)) {ys:List AVal} (h':VRs I β ys (vs.drop n)):VRs I β (xs++ys) vs:=by
 have:=Zbm h h'
 rwa [Xbc] at this
theorem Zqq {α β:Type} {f:α->Option β} {a:α} {l:List α} {r:List β} (h:(a::l).mapM f=some r):∃ b r',f a=some b/\l.mapM f=some r'/\r=b::r':=by
 rw [Xbt] at h
 simp only [Option.bind_eq_bind,Option.bind_eq_some_iff,Option.pure_def,Xa] at h
 obtain ⟨b,h1,r',h2,h3⟩:=h
 exact ⟨b,r',h1,h2,h3.symm⟩
theorem ZBm {a b:List AVal} (ha:ZX a=true) (hb:ZX b=true):ZX (a++b)=true:=by
 induction a with
 | nil=>exact hb
 | cons x a ih=>simp only [XC,ZX,Xh] at ha ⊢;exact ⟨ha.1,ih ha.2⟩
theorem ZqA {I:Imm} {β:Bmap} {s:Bool} {k b:Nat}:∀ (n off:Nat) (Y:Nat->List AVal),(∀ i,i < n->(ZbW s (Y i)).cells.length=k/\CR I β (ZbW s (Y i)).cells b (off+i*k))->LR I β k ((Wm n).map fun i=>ZbW s (Y i)) b off
 | 0,off,Y,_=>by simp [LR]
 | n+1,off,Y,h=>by
  rw [List.range_succ_eq_map,XA,Ze2]
  have h0:=h 0 (by omega)
  simp only [Xbs,Wo] at h0
  refine ⟨h0,?_⟩
  rw [XY]
  exact ZqA n (off+k) (fun i=>Y (i+1)) (fun i hi=>by
   have:=h (i+1) (by omega)
   rw [show off+k+i*k=off+(i+1)*k by rw [XbD];omega]
   exact this)
theorem Zm5 {I:Imm} {β:Bmap} {b:Nat}:∀ (xs:List AVal) (cs:List Value) (off:Nat),VRs I β xs cs->(∀ i,i < cs.length->I b (off+i)=cs[i]?)->CR I β xs b off
 | [],_,_,_,_=>by simp only [CR]
 | x::xs,cs,off,h,hI=>by
  simp only [VRs] at h
  obtain ⟨v,vs',rfl,h1,h2⟩:=h
  simp only [CR]
  refine ⟨⟨v,by have:=hI 0 (by simp);simpa using this,h1⟩,Zm5 xs vs' (off+1) h2 fun i hi=>?_⟩
  have:=hI (i+1) (by simp;omega)
  rw [show off+1+i=off+(i+1) by omega,this]
  simp
theorem Zjj {s:Bool}:∀ (n:Nat) (Y:Nat->List AVal),(∀ i,i < n->ZX (ZbW s (Y i)).cells=true)->ZE ((Wm n).map fun i=>ZbW s (Y i))=true
 | 0,Y,_=>by simp [ZE]
 | n+1,Y,h=>by
  rw [List.range_succ_eq_map,XA,Zo6,h 0 (by omega),XY]
  simp only [Xbz]
  exact Zjj n (fun i=>Y (i+1)) (fun i hi=>h (i+1) (by omega))
theorem Zqd {xs:List AVal} (h:ZX xs=true):∀ x ∈ xs,ZI x=true:=by
 induction xs with
 | nil=>intro x hx;simp at hx
 | cons y ys ih =>
  simp only [ZX,Xh] at h
  intro x hx
  rcases Xv.1 hx with rfl | hx
  ·cases x <;> simp_all [ZV,ZI]
  ·exact ih h.2 x hx
theorem Rel.start (w:World) (hG:Gl.le (Imm.of w)):Rel (fun b=>b < w.heap.size) w (Imm.of w) (Imm.of w) B0 [] w where
 below:=KB.refl _ w
 old:=fun _ _ _=>rfl
 imm:=fun _ _ _ h=>h
 blk:=fun t x h=>by simp at h
 own:=fun t x b h=>by simp at h
 apart:=fun t x t' x' b h=>by simp at h
 fresh:=fun _ _ _=>rfl
 free:=fun t g h=>by simp at h
 gen:=fun t b g h=>by simp at h
 glob:=hG
 ro:=fun t x b h=>by simp at h
theorem Zyz {O:Zz} (hO:Z1 P O) {f:Nat} {args:List AVal} {vs:Array Value} {σ':Za} (hG:Gl.le (Imm.of w)) (hargs:VRs (Imm.of w) B0 args vs.toList) (h:O f args []=some (.bool true,σ')) :
  Calls P f vs w (fun e w'=>e=.returned (.bool true)/\Below w.heap.size w w'):=by
 refine ((hO f args [] _ _ h).2 _ w _ _ B0 w vs (fun b hb=>hb) (Rel.start w hG) hargs).mono ?_
 rintro e w' ⟨u,he,I',β',_,_,R,hv⟩
 simp only [Zad,VR] at hv
 subst hv
 exact ⟨he,R.below.os,R.below.tape,R.below.output,R.below.size,R.below.block⟩
end
end
section
open Go.RowKit
theorem ZAJ (id:Nat) (tm:Tms) (σ:Za):ZaQ id (.normal,tm,σ)=(.normal,tm,σ):=rfl
theorem Zuh (id i:Nat) (tm:Tms) (σ:Za):ZaQ id (.exit i,tm,σ)=if i=id then (.normal,tm,σ) else (.exit i,tm,σ):=by simp only [ZaQ]
theorem ZAC (id:Nat) (tm:Tms) (σ:Za):ZaQ id (.ret,tm,σ)=(.ret,tm,σ):=rfl
theorem Zuq (id:Nat) (x:AVal) (tm:Tms) (σ:Za):ZaQ id (.panic x,tm,σ)=(.panic x,tm,σ):=rfl
section
variable (O:Zz) (bf:Nat->Bool)
def ZcX (c:Cls):Option (Tms×Za×List Cls×Option AVal)->Option (Tms×Za×List Cls×Option AVal)
 | none=>none
 | some (tm,σ,cs,p)=>some (tm,σ,c::cs,p)
def Ze3 (c:List Cls):Option (Tms×Za×List Cls×Option AVal)->Option (Tms×Za×List Cls×Option AVal)
 | none=>none
 | some (tm,σ,cs,p)=>some (tm,σ,c++cs,p)
def kC (d:Option Nat) (os:List AOp) (s:Nat) (tm:Tms):Option (AVal×Za×Cls)->Option (Tms×Za×List Cls×Option AVal)
 | none=>none
 | some (v,σ,c)=>if Zab v then some (tput tm d v,σ,[c],some (Zad v)) else ZcX c (ZA O bf os s (tput tm d v) σ)
def Zet (ops:List AOp) (L:Nat) (l:List (Nat×Nat)) (live:List Nat):Option (Tms×Za×List Cls×Option AVal)->Option (Zy×Tms×Za)
 | none=>none
 | some (_,σ,cs,some x)=>if Zfn ops L l cs then some (.panic x,[],σ) else none
 | some (tm,σ,cs,none)=>if Zcz ops L l cs then some (.normal,keepL live tm,σ) else none
variable {O bf}
theorem Zqz (s:Nat) (tm:Tms) (σ:Za):ZA O bf [] s tm σ=some (tm,σ,[],none):=rfl
theorem ZIt (c:Cls) (tm:Tms) (σ:Za) (cs:List Cls) (p:Option AVal):ZcX c (some (tm,σ,cs,p))=some (tm,σ,c::cs,p):=rfl
theorem ZGo (c:Cls):ZcX c none=none:=rfl
theorem ZFZ (c:Cls) (q:Prop) [Decidable q] (x y:Option (Tms×Za×List Cls×Option AVal)):ZcX c (if q then x else y)=if q then ZcX c x else ZcX c y:=by split <;> rfl
theorem Zx7 (c:List Cls) (tm:Tms) (σ:Za) (cs:List Cls) (p:Option AVal):Ze3 c (some (tm,σ,cs,p))=some (tm,σ,c++cs,p):=rfl
theorem ZBp (c:List Cls):Ze3 c none=none:=rfl
theorem ZuG (c:List Cls) (q:Prop) [Decidable q] (x y:Option (Tms×Za×List Cls×Option AVal)):Ze3 c (if q then x else y)=if q then Ze3 c x else Ze3 c y:=by split <;> rfl
theorem ZiA {o:AOp} {os:List AOp} {s:Nat} {tm tm1:Tms} {σ σ1:Za} {v:AVal} {c:Cls} (h:Zs O bf o s tm σ=some (v,tm1,σ1,c)) (hn:Zab v=false):ZA O bf (o::os) s tm σ=ZcX c (ZA O bf os (s+nsite o.ins) tm1 σ1):=by
 rw [Zpf h hn]
 cases ZA O bf os (s+nsite o.ins) tm1 σ1 <;> rfl
theorem ZlF (d:Option Nat) (i:Ins) (af:List Nat) (os:List AOp) (s:Nat) (tm:Tms) (σ:Za):ZA O bf (⟨d,i,none,af⟩::os) s tm σ=kC O bf d os (s+nsite i) tm (exI O bf i s tm σ):=by
 cases h:exI O bf i s tm σ with
 | none=>exact ZgB (by rw [Zil,h];rfl)
 | some q =>
  obtain ⟨v,σ1,c⟩:=q
  have hs:Zs O bf ⟨d,i,none,af⟩ s tm σ=some (v,tput tm d v,σ1,c):=by rw [Zil,h];rfl
  cases hp:Zab v with
  | true =>
   obtain ⟨x,rfl⟩:=Zhw hp
   exact ZhT hs
  | false =>
   rw [ZiA hs hp]
   simp only [kC,hp,Xf,if_false]
theorem ZmM (d:Option Nat) (os:List AOp) (s:Nat) (tm:Tms) (v:AVal) (σ:Za) (c:Cls) (h:Zab v=false):kC O bf d os s tm (some (v,σ,c))=ZcX c (ZA O bf os s (tput tm d v) σ):=by
 simp only [kC,h,Xf,if_false]
theorem ZAi (d:Option Nat) (os:List AOp) (s:Nat) (tm:Tms) (x:AVal) (σ:Za) (c:Cls):kC O bf d os s tm (some (.pan x,σ,c))=some (tput tm d (.pan x),σ,[c],some x):=rfl
theorem ZBR (d:Option Nat) (os:List AOp) (s:Nat) (tm:Tms):kC O bf d os s tm none=none:=rfl
theorem ZFs (d:Option Nat) (os:List AOp) (s:Nat) (tm:Tms) (q:Prop) [Decidable q] (x y:Option (AVal×Za×Cls)):kC O bf d os s tm (if q then x else y)=if q then kC O bf d os s tm x else kC O bf d os s tm y:=by split <;> rfl
theorem Zul (ops:List AOp) (l:List (Nat×Nat)) (live:List Nat) (tm:Tms) (σ:Za):ZbV O bf ops (some l) live tm σ=Zet ops σ.length l live (ZA O bf ops σ.length tm (σ++Xy (sitesOf ops) .free)):=by
 unfold ZbV
 cases ZA O bf ops σ.length tm (σ++Xy (sitesOf ops) .free) with
 | none=>rfl
 | some q =>
  obtain ⟨tm',σ',cs,p⟩:=q
  cases p <;> rfl
theorem ZnB (ops:List AOp) (L:Nat) (l:List (Nat×Nat)) (live:List Nat) (tm:Tms) (σ:Za) (cs:List Cls) (h:Zcz ops L l cs=true):Zet ops L l live (some (tm,σ,cs,none))=some (.normal,keepL live tm,σ):=by
 simp only [Zet,h,if_true]
theorem ZFo (ops:List AOp) (L:Nat) (l:List (Nat×Nat)) (live:List Nat):Zet ops L l live none=none:=rfl
theorem ZHa (ops:List AOp) (L:Nat) (l:List (Nat×Nat)) (live:List Nat) (q:Prop) [Decidable q] (x y:Option (Tms×Za×List Cls×Option AVal)):Zet ops L l live (if q then x else y)=if q then Zet ops L l live x else Zet ops L l live y:=by split <;> rfl
theorem ZAt (ops:List AOp) (L:Nat) (l:List (Nat×Nat)) (cs:List Cls) (h:(cs.all fun c=>c.wr.isEmpty && !c.any)=true) (hs:(l.all fun p=>p.1 == p.2 || nsite (ops.getD p.1 default).ins == 0)=true):Zcz ops L l cs=true:=by
 have hd:∀ i,Zcr (cs.getD i {})=true:=by
  intro i
  rw [XF] at h
  rw [Xd]
  cases hi:cs[i]? with
  | none=>rfl
  | some c=>exact h c (Xn hi)
 unfold Zcz
 rw [XF] at hs ⊢
 intro p hp
 have:=hs p hp
 rw [Bool.or_eq_true] at this ⊢
 rcases this with this | this
 ·exact Xk this
 ·refine Xp ?_
  unfold ZbP
  simp only [hd,this,Bool.and_true,Xbz,Xak,Bool.or_true]
theorem ZGc (ops:List AOp) (L:Nat) (l:List (Nat×Nat)) (live:List Nat) (tm:Tms) (σ:Za) (cs:List Cls) (h:(cs.all fun c=>c.wr.isEmpty && !c.any)=true) (hs:(l.all fun p=>p.1 == p.2 || nsite (ops.getD p.1 default).ins == 0)=true):Zet ops L l live (some (tm,σ,cs,none))=some (.normal,keepL live tm,σ) :=
 ZnB _ _ _ _ _ _ _ (ZAt _ _ _ _ h hs)
variable (O bf) in
def gKC (os:List AOp) (s:Nat):Option (Tms×Za×List Cls×Option AVal)->Option (Tms×Za×List Cls×Option AVal)
 | none=>none
 | some (tm,σ,cs,some x)=>some (tm,σ,cs,some x)
 | some (tm,σ,cs,none)=>Ze3 cs (ZA O bf os s tm σ)
theorem Zu2 (os:List AOp) (s:Nat) (tm:Tms) (σ:Za) (cs:List Cls):gKC O bf os s (some (tm,σ,cs,none))=Ze3 cs (ZA O bf os s tm σ):=rfl
theorem Zsj (os:List AOp) (s:Nat) (q:Prop) [Decidable q] (x y:Option (Tms×Za×List Cls×Option AVal)):gKC O bf os s (if q then x else y)=if q then gKC O bf os s x else gKC O bf os s y:=by split <;> rfl
theorem Zsd (os:List AOp) (s:Nat) (c:Cls) (r:Option (Tms×Za×List Cls×Option AVal)):gKC O bf os s (ZcX c r)=ZcX c (gKC O bf os s r):=by
 cases r with
 | none=>rfl
 | some q =>
  obtain ⟨tm,σ,cs,p⟩:=q
  cases p with
  | some x=>rfl
  | none =>
   simp only [ZcX,gKC]
   cases ZA O bf os s tm σ <;> rfl
theorem Znf:∀ (a b:List AOp) (s:Nat) (tm:Tms) (σ:Za),ZA O bf (a++b) s tm σ=gKC O bf b (s+sitesOf a) (ZA O bf a s tm σ)
 | [],b,s,tm,σ=>by
  simp only [Xr,Zqz,gKC,sitesOf,X9,List.sum_nil,Wo]
  cases ZA O bf b s tm σ <;> rfl
 | o::a,b,s,tm,σ=>by
  have ih:=Znf a b
  simp only [XC]
  have hs:s+nsite o.ins+sitesOf a=s+sitesOf (o::a):=by simp [sitesOf,WC]
  cases hst:Zs O bf o s tm σ with
  | none=>rw [ZgB hst,ZgB hst];rfl
  | some q =>
   obtain ⟨v,tm1,σ1,c⟩:=q
   cases hp:Zab v with
   | true =>
    obtain ⟨x,rfl⟩:=Zhw hp
    rw [ZhT hst,ZhT hst];rfl
   | false=>rw [ZiA hst hp,ZiA hst hp,ih,hs,Zsd]
variable (O bf) in
def Zdy (j:Nat) (w:Bool) (g:List AOp) (s:Nat) (tm:Tms) (σ:Za):Option (Tms×Za×List Cls×Option AVal):=match Za3 (some (j,w)) tm with
 | none=>none
 | some false=>some (ZaC g tm,σ,g.map fun _=>{},none)
 | some true=>ZA O bf (g.map unG) s tm σ
theorem Zow (j:Nat) (w:Bool):∀ (g:List AOp),(∀ o ∈ g,o.guard=some (j,w)/\o.dst≠some j)->∀ (s:Nat) (tm:Tms) (σ:Za),g≠[]->ZA O bf g s tm σ=Zdy O bf j w g s tm σ
 | [],_,_,_,_,h=>absurd rfl h
 | o::g,hall,s,tm,σ,_=>by
  obtain ⟨hg,hd⟩:=hall o (by simp)
  have ih:∀ (tm:Tms) (σ:Za) (s:Nat),Za3 (some (j,w)) tm≠none->ZA O bf g s tm σ=Zdy O bf j w g s tm σ:=by
   intro tm σ s hw
   by_cases he:g=[]
   ·subst he
    unfold Zdy
    cases hx:Za3 (some (j,w)) tm with
    | none=>exact absurd hx hw
    | some b=>cases b <;> rfl
   ·exact Zow j w g (fun o ho=>hall o (by simp [ho])) s tm σ he
  cases hx:Za3 (some (j,w)) tm with
  | none =>
   rw [ZgB (by simp only [Zs,hg,hx])]
   simp only [Zdy,hx]
  | some b =>
   cases b with
   | false =>
    have h1:ZA O bf (o::g) s tm σ=ZcX {} (ZA O bf g (s+nsite o.ins) (tput tm o.dst (.tup [])) σ) :=
     ZiA (v:=.tup []) (c:={}) (by simp only [Zs,hg,hx]) rfl
    rw [h1,ih _ _ _ (by rw [Zey hd,hx];simp)]
    unfold Zdy
    rw [Zey hd,hx]
    rfl
   | true =>
    have key:∀ r:Option (AVal×Za×Cls),(∀ v σ' c,r=some (v,σ',c)->Zab v=false->ZA O bf g (s+nsite o.ins) (tput tm o.dst v) σ'=ZA O bf (g.map unG) (s+nsite o.ins) (tput tm o.dst v) σ')->kC O bf o.dst g (s+nsite o.ins) tm r=kC O bf o.dst (g.map unG) (s+nsite o.ins) tm r:=by
     intro r hr
     cases r with
     | none=>rfl
     | some q =>
      obtain ⟨v,σ',c⟩:=q
      cases hp:Zab v with
      | true=>simp only [kC,hp,if_true]
      | false=>rw [ZmM _ _ _ _ _ _ _ hp,ZmM _ _ _ _ _ _ _ hp,hr v σ' c rfl hp]
    have h1:ZA O bf (o::g) s tm σ=kC O bf o.dst g (s+nsite o.ins) tm (exI O bf o.ins s tm σ):=by
     have h0:ZA O bf (o::g) s tm σ=ZA O bf (⟨o.dst,o.ins,none,o.after⟩::g) s tm σ:=by
      have hst:Zs O bf o s tm σ=Zs O bf ⟨o.dst,o.ins,none,o.after⟩ s tm σ:=by
       unfold Zs
       simp only [hg,hx]
       rfl
      simp only [ZA,hst]
     rw [h0,ZlF]
    rw [h1]
    unfold Zdy
    rw [hx]
    simp only [XA]
    rw [show unG o=⟨o.dst,o.ins,none,o.after⟩ from rfl,ZlF]
    refine key _ fun v σ' c _ _=>?_
    rw [ih _ _ _ (by rw [Zey hd,hx];simp)]
    unfold Zdy
    rw [Zey hd,hx]
theorem Zs8 (d:Option Nat) (i:Ins) (j:Nat) (w:Bool) (af:List Nat) (os:List AOp) (s:Nat) (tm:Tms) (σ:Za) (hd:decide (d=some j)=false) :
  ZA O bf (⟨d,i,some (j,w),af⟩::os) s tm σ=gKC O bf (ZG j w os).2 (s+sitesOf (⟨d,i,some (j,w),af⟩::(ZG j w os).1)) (Zdy O bf j w (⟨d,i,some (j,w),af⟩::(ZG j w os).1) s tm σ):=by
 have h:=Zmt j w os
 have hall:∀ o ∈ (⟨d,i,some (j,w),af⟩::(ZG j w os).1:List AOp),o.guard=some (j,w)/\o.dst≠some j:=by
  intro o ho
  rcases Xv.1 ho with rfl | ho
  ·exact ⟨rfl,by simpa using hd⟩
  ·exact Zkw j w os o ho
 rw [<-Zow j w _ hall s tm σ (by simp),<-Znf,XC,h]
variable (O bf) in
def gWC (w:Bool) (g:List AOp) (s:Nat) (tm:Tms) (σ:Za):AVal->Option (Tms×Za×List Cls×Option AVal)
 | .bool b=>if b=w then ZA O bf (g.map unG) s tm σ else some (ZaC g tm,σ,g.map fun _=>{},none)
 | .tup []=>some (ZaC g tm,σ,g.map fun _=>{},none)
 | _=>none
theorem ZDo (j:Nat) (w:Bool) (g:List AOp) (s:Nat) (tm:Tms) (σ:Za):Zdy O bf j w g s tm σ=gWC O bf w g s tm σ (tget tm j):=by
 unfold Zdy Za3
 simp only
 generalize tget tm j=v
 cases v
 case bool b=>cases b <;> cases w <;> rfl
 case tup vs=>cases vs <;> rfl
 all_goals rfl
theorem ZzO (w:Bool) (g:List AOp) (s:Nat) (tm:Tms) (σ:Za) (b:Bool):gWC O bf w g s tm σ (.bool b)=if b=w then ZA O bf (g.map unG) s tm σ else some (ZaC g tm,σ,g.map fun _=>{},none):=rfl
theorem ZBD (w:Bool) (g:List AOp) (s:Nat) (tm:Tms) (σ:Za):gWC O bf w g s tm σ (.tup [])=some (ZaC g tm,σ,g.map fun _=>{},none):=rfl
theorem ZtR (q:Prop) [Decidable q] (t1 t2:Tms) (σ1 σ2:Za) (cs:List Cls):(if q then some (t1,σ1,cs,(none:Option AVal)) else some (t2,σ2,cs,none))=some ((if q then t1 else t2),(if q then σ1 else σ2),cs,none):=by split <;> rfl
end
section
theorem Zob {r:AVal} {cs:List AVal} {σ:Za} (hr:ZP r=true) (hc:ZbD cs=true):gcA 1 [r] (.var cs::σ)=([r],[.var cs]):=by
 have e1:=(Zcm (Zd (.var cs::σ) 1 [0]) r hr)
 have e2:=(Zdz (Zd (.var cs::σ) 1 [0]) cs hc)
 have h1:Zq 1 [r] (.var cs::σ)=[0]:=by
  have : Zu [r]=[]:=by simp only [Zu,e1.2,XE]
  simp only [Zq,this,List.range_one,XG,Wp,XE,XK,Zt,e2.2]
  rfl
 simp only [gcA,h1,Zp,e1.1,Zi,XK,Zl,e2.1]
theorem Zxc {r:AVal} {cs:List AVal} {σ:Za} (hr:ZP r=true) (hc:ZbD cs=true):Zar 1 (.var cs::σ) r=some (r,[.var cs]):=by
 simp only [Zar,Zob hr hc]
theorem ZvE {σ:Za} {t:Nat} {cs:List AVal} (hs:σ[t]?=some (.var cs)) (hc:ZbD cs=true):Zj σ 1000 [t] []=[t]:=by
 have hd:σ.getD t .free=.var cs:=by simp [Xd,hs]
 have e2:=(Zdz (fun _ _=>none) cs hc).2
 show Zj σ (999+1) [t] []=[t]
 simp only [Zj,List.contains_nil,Xf,if_false,hd,Zt,e2,Xr]
theorem Zs1 {O:Zz} {bf:Nat->Bool} {σ:Za} {t sq f:Nat} {view:Bool} {rest:List AVal} {cs cs':List AVal} {r:AVal} (hs:σ[t]?=some (.var cs)) (hc:ZbD cs=true) (hc':ZbD cs'=true) (hb:bf f=false) (hp:rest.all Z7=true) (hr:ZaO r=true) (hn:ZP r=true) (hv:viewR [.var cs'] r=some (r,[]))
  (h:O f (.ref 0 0::rest.map ZH) [.var cs]=some (r,[.var cs'])):Zr O bf σ sq f 0 view (.ref t 0::rest)=some (r,σ.set t (.var cs'),{ any:=true,upd:=[(t,cs')] }):=by
 have htl:t < σ.length:=by
  rcases Xav t σ.length with h | h
  ·exact h
  ·rw [XO h] at hs;cases hs
 have hup:ZaI (σ.set t (.var cs')) [t]=[(t,cs')]:=by
  simp only [ZaI,List.getElem?_set,if_pos htl,if_true]
 have hd:σ.getD t .free=.var cs:=by simp [Xd,hs]
 have hf0:Zo σ []=σ:=rfl
 have hsh:showAs σ (.ref t 0::rest)=some (.ref t 0::rest.map ZH,[]):=by
  rw [showAs,show showA σ (.ref t 0)=some (.ref t 0,[]) from rfl,Zfj hp]
  rfl
 have href:Zu (.ref t 0::rest.map ZH)=[t]:=by
  rw [Zu,ZeI hp];rfl
 unfold Zr Zbt
 rw [hb]
 simp only [Xf,if_false,hsh,hf0,href,ZvE hs hc]
 unfold ZaS
 have hall:([t].all fun t=>okB (σ.getD t .free))=true:=by simp [X3,Ww,hs,okB]
 rw [if_pos hall]
 have hρ:Zd σ 0 [t] t 0=some (0,0):=by simp [Zd,Zw,hs,Zb,Zv]
 have hheap:Zi σ 0 [t] (Zd σ 0 [t]) [t] 0=[.var cs]:=by
  simp only [Zi,hd,Zl,(Zdz _ cs hc).1]
 have hargs:Zp (Zd σ 0 [t]) (.ref t 0::rest.map ZH)=.ref 0 0::rest.map ZH:=by
  rw [Zp,ZeK hp]
  simp only [Ze,hρ]
 rw [hargs,hheap,h]
 have hask:Z4 view [t].length (some (r,[.var cs']))=some (r,[.var cs']):=by
  unfold Z4
  split
  ·have hnp:∀ x,r≠.pan x:=by rintro x rfl;simp [viewR,ZbH,ZaT] at hv
   rw [show Zcv [t].length (some (r,[.var cs']))=(match viewR [.var cs'] r with
    | some (r',ts)=>match gcA [t].length [r'] (Zo [.var cs'] ts) with
     | ([r''],σ')=>some (r'',σ')
     | _=>none
    | none=>none) from by cases r <;> first | rfl | exact absurd rfl (hnp _)]
   rw [hv]
   simp only [XD,XT,Xw,show Zo [Zg.var cs'] []=[.var cs'] from rfl,Zob hn hc']
  ·rfl
 rw [hask]
 have hk:Z5 σ [t] [.var cs'] 0=true:=by
  simp [Z5,okB,hs,Za6,Zb]
 simp only [Z9,List.isEmpty_cons,Xf,if_false,XD,XT,Xw,Wo,XI,decide_true,hk,Zac,Wh,if_true,ZY,ZO,XK,Zl,(Zcm _ r hn).1,(Zdz _ cs' hc').1,hup]
end
end
section
section
variable (c:Prop) [Decidable c]
theorem Zt9 (t1 t2:Tms) (σ1 σ2:Za):(if c then some (Zy.normal,t1,σ1) else some (Zy.normal,t2,σ2))=some (Zy.normal,(if c then t1 else t2),(if c then σ1 else σ2)):=by split <;> rfl
theorem ZzS (t1 t2:Tms) (σ1 σ2:Za):(if c then some (Zy.ret,t1,σ1) else some (Zy.ret,t2,σ2))=some (Zy.ret,(if c then t1 else t2),(if c then σ1 else σ2)):=by split <;> rfl
theorem ZyQ (t1 t2:Tms) (σ1 σ2:Za):(if c then some (t1,σ1,(none:Option AVal)) else some (t2,σ2,none))=some ((if c then t1 else t2),(if c then σ1 else σ2),none):=by split <;> rfl
theorem ZwE (n:Nat) (a b:AVal):(if c then (n,a) else (n,b))=(n,if c then a else b):=by split <;> rfl
theorem Zur (a b:AVal) (σ1 σ2:Za):(if c then some (a,σ1) else some (b,σ2))=some ((if c then a else b),(if c then σ1 else σ2)):=by split <;> rfl
theorem Zw2 (a b:AVal) (σ1 σ2:Za) (x y:Cls):(if c then some (a,σ1,x) else some (b,σ2,y))=some ((if c then a else b),(if c then σ1 else σ2),if c then x else y):=by split <;> rfl
end
theorem ZGn (ops:List AOp) (b:Nat) (cs:List Cls):Zcz ops b [] cs=true:=rfl
theorem ZwB (ops:List AOp) (b:Nat) (p:Nat×Nat) (l:List (Nat×Nat)) (cs:List Cls):Zcz ops b (p::l) cs=((p.1 == p.2 || ZbP (ops.getD p.1 default) (ops.getD p.2 default) (cs.getD p.1 {}) (cs.getD p.2 {}) (b+sitesOf (ops.take p.1))) && Zcz ops b l cs):=by
 simp only [Zcz,X3]
theorem ZFW (oj oi:AOp) (cj ci:Cls) (sj:Nat):ZbP oj oi cj ci sj=(ZbB oj cj || ZbB oi ci || (Zcr cj && Zcr ci && (nsite oj.ins == 0 || !ci.rd.contains sj)) || ((ZaM oj.ins || (Zbi oj.ins && !cj.any)) && (Zcr ci && ci.rd.isEmpty)) || (ZaW oj.ins && ZaM oi.ins && ci.any && Zby cj ci) || (ZaW oj.ins && (Zbi oi.ins || (Zb1 oi.ins && Zdi cj ci)) && Zby cj ci) || (Zc3 oj.ins && ZcE oi.ins) || (ZaM oj.ins && ZaW oi.ins && cj.any && Zda cj ci sj) || (((Zbi oj.ins && !cj.any) || Zb1 oj.ins) && Zcr ci && nsite oi.ins == 0 && ci.rd.all fun t=>!cj.wr.contains t && t != sj) || (ZaW oj.ins && ZaM oi.ins && ci.any && cj.nd)):=rfl
theorem ZJi (o:AOp) (rd wr:List Nat) (any:Bool) (got:List (Nat×Option Nat×Nat×AVal)) (upd:List (Nat×List AVal)) (nd:Bool):ZbB o ⟨rd,wr,any,got,upd,nd⟩=(nsite o.ins == 0 && rd.isEmpty && wr.isEmpty && !any):=rfl
theorem ZFA (rd wr:List Nat) (any:Bool) (got:List (Nat×Option Nat×Nat×AVal)) (upd:List (Nat×List AVal)) (nd:Bool):Zcr ⟨rd,wr,any,got,upd,nd⟩=(wr.isEmpty && !any):=rfl
theorem Zbf {α:Type} {l:List α} {i:Nat} {x:α} {r:List α} (h:l.drop i=x::r):l[i]?=some x/\l.drop (i+1)=r/\i < l.length:=by
 have h1:i < l.length:=by
  rcases Xav i l.length with h1 | h1
  ·exact h1
  ·rw [List.drop_eq_nil_of_le h1] at h;cases h
 rw [List.drop_eq_getElem_cons h1] at h
 injection h with h2 h3
 exact ⟨by rw [Xm h1,h2],h3,h1⟩
theorem ZdF {α:Type} {l:List α} {i:Nat} (h:l.drop i=[]):¬(i:Int) < l.length:=by
 have:=List.drop_eq_nil_iff.1 h;omega
theorem iad {α:Type} {l:List α} {i:Nat} {x:α} (h:l[i]?=some x) (f:α->AVal) {k:Nat} (hk:(f x).cells.length=k) (σ:Za) (n:Bool) (kk:IntKind):ZbG σ k (.lst n (l.map f)) (.int kk (i:Int))=some (.iptr (f x).cells 0,σ,{}):=by
 have h0:(0:Int)<=(i:Int):=Int.natCast_nonneg i
 unfold ZbG
 simp only [h0,if_true,W4,XN,h,XQ,hk]
theorem Zc9 {n:Int} (h0:-9223372036854775808<=n) (h:n<=9223372036854775807):IntKind.i64.wrap n=n:=by
 rw [IntKind.wrap_i64];omega
theorem Zdf {i n:Nat} (h:(i:Int) < n) (hn:n<=9223372036854775807):IntKind.i64.wrap ((i:Int)+1)=((i+1:Nat):Int):=by
 rw [Zc9 (by omega) (by omega)];rfl
theorem Zbp {O:Zz} {bf:Nat->Bool} {f:Nat} {args:List AVal} {r:AVal} (h:O f args []=some (r,[])) (hb:bf f=false) (hp:args.all Z7=true) (hn:args.map ZH=args) (hv:Zcv 0 (some (r,[]))=some (r,[])) (hr:∀ sq,Ze (Zah [] [] sq) r=r) (σ:Za) (sq own:Nat) (view:Bool):Zr O bf σ sq f own view args=some (r,σ,{}):=by
 rw [ZrI hb hp,hn,h]
 have : Z4 view 0 (some (r,[]))=some (r,[]):=by
  unfold Z4
  split
  ·exact hv
  ·rfl
 rw [this,Zrv _ _ _ _ (hr sq)]
theorem Zrz {α:Type} (σ:Za) (k:Nat) (l:List α) (f:α->AVal) (kk:IntKind) (n:Int) (h0:0<=n) (h:n<=(l.length:Int)):ZbC σ k (.lst false (l.map f)) none (some (.int kk n)) none=some (.lst false ((l.take n.toNat).map f),σ,{}):=by
 simp only [ZbC,Zax,Zci,Wj,h0,h,and_self,if_true,beq_self_eq_true,Xak,XaG,Xf,if_false,XaD,XaS,XbN]
abbrev Zja:=List UInt8
structure ZJl where
 id:Int
 num:Int
 text:Zja
 pair:Zja
 data:Zja
 deriving DecidableEq
theorem Zu1 (l:Zja):Zer (l.map ZaG)=some l:=by
 induction l with
 | nil=>rfl
 | cons b l ih =>
  simp only [XA,Zer,ih,ZaG,ZmD,W4,UInt8.ofNat_toNat]
end
end Go.Proofs.YtbjflkbenobjjaaDoor
